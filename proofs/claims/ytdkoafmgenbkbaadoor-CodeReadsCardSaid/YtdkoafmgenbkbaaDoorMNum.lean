/- Plain words for slices of structs that are read, over whatever program: what a slice value holds as a list, how it is kept, how it is opened from an argument's reading. The data of package api as plain Lean types, and how their cells read. Rows that the call itself makes, as lists: what 'append' leaves, over whatever program. Texts as lists of numbers, and byte rows that read as such lists, over whatever program. The plain law of numbers: a text has a number just if the number's one text is that text; no condition. -/
import Derived.WalkKit
import Derived.Below
import Derived.Lib.Hide
import Derived.Deep.Slices
import Derived.Deep.Fields
import Derived.Deep.Draws
import Derived.ProofKit
import Derived.Maps.AppendAt
import Derived.Deep.AppendLies
import Derived.OwnWalk
import Derived.Lib.AppendStr
import Derived.Laws.BytesString
import Derived.Laws.IdiomStrings
import Derived.Lib.ParseIntB
import Derived.Lib.ItoaNum
namespace Go.Proofs.YtdkoafmgenbkbaaDoor
set_option linter.unusedSimpArgs false
set_option linter.unusedVariables false
open Go.RowKit Go.ChangeShapes Go.WideShapes Go.Deep

/-- A slice value that reads as a list: the element number i lies in 'size' cells that are as 'R' says of it. -/
def SlR {α : Type} (w : World) (B size : Nat) (R : List Value → α → Prop) (v : Value) (l : List α) : Prop :=
  ∃ (a : Option Addr) (c : Nat), v = .slice a l.length c ∧ l.length ≤ c ∧ c ≤ maxLen ∧
    (0 < l.length → ∃ b off, a = some ⟨b, off, none⟩ ∧ b < B ∧ ∀ (i : Nat) (y : α), l[i]? = some y → ∃ x : List Value, x.length = size ∧ R x y ∧ ∀ (j : Nat) (u : Value), x[j]? = some u → w.cell? ⟨b, off + i * size + j, none⟩ = some u)

section
variable {α : Type} {w w' : World} {B B' size : Nat} {R R' : List Value → α → Prop} {v : Value} {l : List α}

theorem SlR.nil_ (c : Nat) (hc : c ≤ maxLen) (a : Option Addr) : SlR w B size R (.slice a 0 c) ([] : List α) := ⟨a, c, rfl, Nat.zero_le _, hc, fun h => absurd h (by simp)⟩
theorem SlR.keep (h : SlR w B size R v l) (hk : ∀ p : Addr, p.block < B → w'.cell? p = w.cell? p) (hR : ∀ x y, R x y → R' x y) (hB : B ≤ B') : SlR w' B' size R' v l := by
  obtain ⟨a, c, rfl, h1, h2, h3⟩ := h
  refine ⟨a, c, rfl, h1, h2, fun hl => ?_⟩
  obtain ⟨b, off, ha, hb, hc⟩ := h3 hl
  refine ⟨b, off, ha, by omega, fun i y hy => ?_⟩
  obtain ⟨x, hx1, hx2, hx3⟩ := hc i y hy
  exact ⟨x, hx1, hR _ _ hx2, fun j u hu => (hk ⟨b, _, none⟩ hb).trans (hx3 j u hu)⟩
theorem SlR.below (h : SlR w B size R v l) (hb : Below B w w') : SlR w' B size R v l := h.keep (fun _ hp => hb.cell hp) (fun _ _ r => r) (Nat.le_refl _)
theorem SlR.more (h : SlR w B size R v l) (hB : B ≤ B') : SlR w B' size R v l := h.keep (fun _ _ => rfl) (fun _ _ r => r) hB
theorem SlR.imp (h : SlR w B size R v l) (hR : ∀ x y, R x y → R' x y) : SlR w B size R' v l := h.keep (fun _ _ => rfl) hR (Nat.le_refl _)
theorem SlR.form (h : SlR w B size R v l) : ∃ (a : Option Addr) (c : Nat), v = .slice a l.length c ∧ l.length ≤ c ∧ c ≤ maxLen := by
  obtain ⟨a, c, h0, h1, h2, _⟩ := h
  exact ⟨a, c, h0, h1, h2⟩
/-- the element k -/
theorem SlR.at_ {k : Nat} {y : α} {a : Option Addr} {n c : Nat} (h : SlR w B size R (.slice a n c) l) (hy : l[k]? = some y) :
    ∃ b off x, a = some ⟨b, off, none⟩ ∧ b < B ∧ x.length = size ∧ R x y ∧ ∀ (j : Nat) (u : Value), x[j]? = some u → w.cell? ⟨b, off + k * size + j, none⟩ = some u := by
  obtain ⟨a', c', hv, h1, h2, h3⟩ := h
  have hl : k < l.length := (List.getElem?_eq_some_iff.1 hy).1
  obtain ⟨b, off, ha, hb, hc⟩ := h3 (by omega)
  obtain ⟨x, hx⟩ := hc k y hy
  injection hv with e1 e2 e3
  exact ⟨b, off, x, e1.trans ha, hb, hx.1, hx.2.1, hx.2.2⟩
theorem SlR.len {a : Option Addr} {n c : Nat} (h : SlR w B size R (.slice a n c) l) : n = l.length := by
  obtain ⟨_, _, hv, _⟩ := h
  injection hv
theorem SlR.caps {a : Option Addr} {n c : Nat} (h : SlR w B size R (.slice a n c) l) : n ≤ c ∧ c ≤ maxLen := by
  obtain ⟨_, _, hv, h1, h2, _⟩ := h
  injection hv with _ e2 e3
  subst e2 e3
  exact ⟨h1, h2⟩
end

theorem list_of_forall {α : Type} {P : Nat → α → Prop} : ∀ n : Nat, (∀ i, i < n → ∃ d, P i d) → ∃ l : List α, l.length = n ∧ ∀ i d, l[i]? = some d → P i d
  | 0, _ => ⟨[], rfl, fun i d h => by simp at h⟩
  | n + 1, h => by
    obtain ⟨l, hl, hp⟩ := list_of_forall n (fun i hi => h i (by omega))
    obtain ⟨d, hd⟩ := h n (by omega)
    refine ⟨l ++ [d], by simp [hl], fun i e he => ?_⟩
    rcases Nat.lt_trichotomy i n with hi | hi | hi
    · rw [List.getElem?_append_left (by omega)] at he
      exact hp i e he
    · subst hi
      rw [List.getElem?_append_right (by omega), hl] at he
      simp at he
      subst he
      exact hd
    · rw [List.getElem?_eq_none (by simp; omega)] at he
      cases he

section
variable {H : Type} {enc : TypeId × Value → H} {P : Program} {w : World} {base : Nat} {spare : Nat → Bool} {held : Bool}

theorem cell_lt {w : World} {p : Addr} {u : Value} (h : w.cell? p = some u) : p.block < w.heap.size := by
  rcases Nat.lt_or_ge p.block w.heap.size with hlt | hge
  · exact hlt
  · rw [World.cell?, Array.getElem?_eq_none hge] at h
    cases h

/-- AN ARGUMENT'S SLICE, opened: whatever each element's cells read as. -/
theorem open_SlR {α : Type} {t e : TypeId} {fuel size : Nat} {v : Value} {d : DataW H × List MemPlace} (R : List Value → α → Prop) (ht : P.underlying t = some (.slice e)) (hC : P.cellsOf e = size) (hs : 0 < size)
    (h : DataW.trod enc P w base spare held fuel t [v] = some d)
    (hR : ∀ (n : Nat) (x : List Value) (y : DataW H × List MemPlace), x.length = size → DataW.trod enc P w base spare held n e x = some y → ∃ z : α, R x z) :
    ∃ l : List α, SlR w w.heap.size size R v l := by
  rcases open_slice ht h with ⟨h0, _⟩ | ⟨a, len, cap, m, n, D, Pl, hcs, hb, hl, hm, hmm, hx, hi⟩
  · simp at h0
    subst h0
    exact ⟨[], SlR.nil_ _ (by unfold maxLen; omega) _⟩
  · simp at hcs
    subst hcs
    rw [hC] at hi
    have hlm : len ≤ m := by rw [hmm]; split <;> omega
    have key : ∀ i, i < len → ∃ z : α, ∃ x : List Value, x.length = size ∧ R x z ∧ ∀ (j : Nat) (u : Value), x[j]? = some u → w.cell? (a.add (i * size + j)) = some u := by
      intro i hil
      obtain ⟨cs', h1, h2⟩ := hi i (by omega)
      obtain ⟨_, hlen, hat⟩ := World.cells?_some h1
      obtain ⟨z, hz⟩ := hR n cs' _ hlen h2
      refine ⟨z, cs', hlen, hz, fun j u hu => ?_⟩
      have hj : j < size := by rw [← hlen]; exact (List.getElem?_eq_some_iff.1 hu).1
      have := hat j hj
      rw [hu] at this
      rw [← Go.Deep.add_add]
      exact this
    obtain ⟨l, hlen, hp⟩ := list_of_forall len key
    refine ⟨l, some a, cap, by rw [hlen], by omega, hm, fun hl0 => ?_⟩
    obtain ⟨b, off, spot⟩ := a
    obtain ⟨x, hx1, _, hx3⟩ := hp 0 l[0] (List.getElem?_eq_getElem hl0)
    have hc0 := hx3 0 x[0] (List.getElem?_eq_getElem (by omega))
    have hspot : spot = none := by simpa [Addr.add] using World.cell?_spot hc0
    subst hspot
    refine ⟨b, off, rfl, by simpa [Addr.add] using cell_lt hc0, fun i y hy => ?_⟩
    obtain ⟨x, hx1, hx2, hx3⟩ := hp i y hy
    refine ⟨x, hx1, hx2, fun j u hu => ?_⟩
    have := hx3 j u hu
    have e : (Addr.add ⟨b, off, none⟩ (i * size + j)) = ⟨b, off + i * size + j, none⟩ := by
      unfold Addr.add
      split
      · rename_i h0
        rw [Nat.add_assoc, h0, Nat.add_zero]
      · rw [Nat.add_assoc]
    rwa [e] at this

/-- A STRUCT'S CELLS, opened: each field's reading (fields of one cell each). -/
theorem open_fields {e : TypeId} {fs : Array Field} {fuel : Nat} {x : List Value} {d : DataW H × List MemPlace} (he : P.underlying e = some (.struct fs)) (hone : oneCellFields P fs = true) (hC : P.cellsOf e = fs.size)
    (h : DataW.trod enc P w base spare held fuel e x = some d) :
    x.length = fs.size ∧ ∃ n, ∀ (j : Nat) (f : Field), fs[j]? = some f → ∃ (u : Value) (y : DataW H × List MemPlace), x[j]? = some u ∧ DataW.trod enc P w base spare held n f.type [u] = some y := by
  obtain ⟨ys, n, hn, hy, hlen, hyl, hf⟩ := DataW.trod_struct he h
  rw [hC] at hlen
  refine ⟨hlen, n, fun j f hj => ?_⟩
  obtain ⟨ho, hk⟩ := hone_of hone j f hj
  have hjl : j < fs.size := (Array.getElem?_eq_some_iff.1 hj).1
  have h1 := hf j f hj
  rw [ho, hk] at h1
  have hone' : (x.drop j).take 1 = [x[j]'(by omega)] := by
    rw [List.drop_eq_getElem_cons (by omega)]
    rfl
  rw [hone', List.getElem?_eq_getElem (show j < ys.length by omega)] at h1
  exact ⟨_, _, List.getElem?_eq_getElem (by omega), h1⟩
end

/-- the number of the first that is, or -1 -/
def firstAt {α : Type} (p : α → Bool) (l : List α) : Int := match l.findIdx? p with | some i => (i : Int) | none => -1
theorem firstAt_here {α : Type} {p : α → Bool} {l : List α} {k : Nat} {d : α} (hd : l[k]? = some d) (hp : p d = true) (hf : ∀ i d, i < k → l[i]? = some d → p d = false) : firstAt p l = k := by
  have hk : k < l.length := (List.getElem?_eq_some_iff.1 hd).1
  have : l.findIdx? p = some k := by
    rw [List.findIdx?_eq_some_iff_getElem]
    refine ⟨hk, ?_, fun j hj => ?_⟩
    · have := (List.getElem?_eq_some_iff.1 hd).2; rw [this]; exact hp
    · simp [hf j _ hj (List.getElem?_eq_getElem (by omega))]
  simp [firstAt, this]
theorem firstAt_none {α : Type} {p : α → Bool} {l : List α} (hf : ∀ i d, i < l.length → l[i]? = some d → p d = false) : firstAt p l = -1 := by
  have : l.findIdx? p = none := by
    rw [List.findIdx?_eq_none_iff]
    intro x hx
    obtain ⟨i, hi⟩ := List.mem_iff_getElem?.1 hx
    exact hf i x (List.getElem?_eq_some_iff.1 hi).1 hi
  simp [firstAt, this]
theorem firstAt_any {α : Type} (p : α → Bool) (l : List α) : decide (0 ≤ firstAt p l) = l.any p := by
  unfold firstAt
  cases h : l.findIdx? p with
  | none =>
    rw [List.findIdx?_eq_none_iff] at h
    simp
    intro x hx
    exact h x hx
  | some i =>
    obtain ⟨hi, hp, _⟩ := List.findIdx?_eq_some_iff_getElem.1 h
    simp
    exact ⟨_, List.getElem_mem hi, hp⟩

theorem toList_inj (a b : ByteArray) : a.toList = b.toList ↔ a = b := by
  rw [ByteArray.toList_eq, ByteArray.toList_eq]
  constructor
  · intro h
    obtain ⟨⟨x⟩⟩ := a
    obtain ⟨⟨y⟩⟩ := b
    simp at h
    simp [h]
  · intro h; rw [h]

/-- two lists, element by element -/
def eqBy {α β : Type} (p : α → β → Bool) : List α → List β → Bool
  | [], [] => true
  | a :: l, b :: m => p a b && eqBy p l m
  | _, _ => false
theorem eqBy_len {α β : Type} (p : α → β → Bool) : ∀ (l : List α) (m : List β), l.length ≠ m.length → eqBy p l m = false
  | [], [], h => absurd rfl h
  | a :: l, b :: m, h => by
    have : l.length ≠ m.length := fun e => h (by simp [e])
    simp [eqBy, eqBy_len p l m this]
  | [], _ :: _, _ => rfl
  | _ :: _, [], _ => rfl
theorem eqBy_no {α β : Type} (p : α → β → Bool) : ∀ (l : List α) (m : List β) (k : Nat) (y : α) (z : β), l[k]? = some y → m[k]? = some z → p y z = false → eqBy p l m = false
  | [], _, k, y, z, h, _, _ => by simp at h
  | _ :: _, [], k, y, z, _, h, _ => by simp at h
  | a :: l, b :: m, 0, y, z, h, h', hp => by
    simp at h h'
    subst h h'
    simp [eqBy, hp]
  | a :: l, b :: m, k + 1, y, z, h, h', hp => by
    simp at h h'
    simp [eqBy, eqBy_no p l m k y z h h' hp]
theorem eqBy_yes {α β : Type} (p : α → β → Bool) : ∀ (l : List α) (m : List β), l.length = m.length → (∀ i y z, i < l.length → l[i]? = some y → m[i]? = some z → p y z = true) → eqBy p l m = true
  | [], [], _, _ => rfl
  | a :: l, b :: m, h, hp => by
    have h0 := hp 0 a b (by simp) rfl rfl
    have h1 := eqBy_yes p l m (by simpa using h) (fun i y z hi hy hz => hp (i + 1) y z (by simpa using hi) (by simpa using hy) (by simpa using hz))
    simp [eqBy, h0, h1]
  | [], _ :: _, h, _ => by simp at h
  | _ :: _, [], h, _ => by simp at h
theorem eqBy_eq {α : Type} [DecidableEq α] : ∀ (l m : List α), eqBy (fun a b => decide (a = b)) l m = decide (l = m)
  | [], [] => by simp [eqBy]
  | a :: l, b :: m => by
    simp only [eqBy, eqBy_eq l m, List.cons.injEq]
    by_cases h : a = b <;> by_cases h' : l = m <;> simp [h, h']
  | [], _ :: _ => by simp [eqBy]
  | _ :: _, [] => by simp [eqBy]
/-- what has been found alike so far, one more -/
theorem so_far {α β : Type} {p : α → β → Bool} {l : List α} {m : List β} {k : Nat} {y : α} {z : β} (hy : l[k]? = some y) (hz : m[k]? = some z) (hp : p y z = true)
    (h : ∀ i y z, i < k → l[i]? = some y → m[i]? = some z → p y z = true) : ∀ i y z, i < k + 1 → l[i]? = some y → m[i]? = some z → p y z = true := by
  intro i y' z' hi h1 h2
  by_cases e : i = k
  · subst e
    rw [hy] at h1; rw [hz] at h2
    injection h1 with h1; injection h2 with h2
    subst h1 h2
    exact hp
  · exact h i y' z' (by omega) h1 h2
theorem so_far1 {α : Type} {p : α → Bool} {b : Bool} {l : List α} {k : Nat} {y : α} (hy : l[k]? = some y) (hp : p y = b)
    (h : ∀ i y, i < k → l[i]? = some y → p y = b) : ∀ i y, i < k + 1 → l[i]? = some y → p y = b := by
  intro i y' hi h1
  by_cases e : i = k
  · subst e
    rw [hy] at h1
    injection h1 with h1
    subst h1
    exact hp
  · exact h i y' (by omega) h1
theorem get_some {α : Type} {l : List α} {k n : Nat} (hl : l.length = n) (h : k < n) : ∃ d, l[k]? = some d := ⟨_, List.getElem?_eq_getElem (by rw [hl]; exact h)⟩
theorem below_drewN {B : Nat} {a w : World} (h : Below B a w) (n : Nat) : Below B a (w.drewN n) := ⟨h.os, h.tape, h.output, h.size, h.block⟩

/-- only draws have been made -/
def Quiet (w w' : World) : Prop := ∃ n, w' = w.drewN n
theorem Quiet.refl (w : World) : Quiet w w := ⟨0, rfl⟩
theorem Quiet.drewN {a w : World} (h : Quiet a w) (n : Nat) : Quiet a (w.drewN n) := by
  obtain ⟨k, rfl⟩ := h
  exact ⟨k + n, by rw [World.drewN_drewN]⟩
theorem Quiet.trans {a b c : World} (h : Quiet a b) (k : Quiet b c) : Quiet a c := by
  obtain ⟨n, rfl⟩ := k
  exact h.drewN n
theorem Quiet.below {a w : World} (h : Quiet a w) (B : Nat) : Below B a w := by
  obtain ⟨n, rfl⟩ := h
  exact below_drewN (Below.refl _ _) n
/-- what a call that leaves the old cells alone leaves to read: two rules for the walk -/
theorem bcell {W w1 : World} {B : Nat} (hb : Below B W w1) : (∀ b o, b < B → w1.cell? ⟨b, o, none⟩ = W.cell? ⟨b, o, none⟩) ∧ (∀ b o, b < B → w1.frozen? ⟨b, o, none⟩ = W.frozen? ⟨b, o, none⟩) :=
  ⟨fun b o h => hb.cell (p := ⟨b, o, none⟩) h, fun b o h => hb.frozen (p := ⟨b, o, none⟩) h⟩
theorem SlR.form' {α : Type} {w : World} {B size : Nat} {R : List Value → α → Prop} {v : Value} {l : List α} (h : SlR w B size R v l) : ∃ (a : Option Addr) (n c : Nat), v = .slice a n c := by
  obtain ⟨a, c, h0, _⟩ := h
  exact ⟨a, _, c, h0⟩
theorem quiet_more {a b : World} {q : Nat} (h : Quiet a (b.drewN q)) (n : Nat) : Quiet a (b.drewN (q + n)) := by
  rw [← World.drewN_drewN]
  exact h.drewN n
/-- a quiet callee's contract in the form that a region that draws its order asks -/
theorem quiet_call {P : Program} {f : FuncId} {args : Array Value} {w : World} {n : Nat} {b c : Bool} (h : Calls P f args (w.drewN n) fun e w' => e = .returned (.bool b) ∧ Quiet (w.drewN n) w') (hb : b = c) :
    Calls P f args (w.drewN n) fun e w'' => e = .returned (.bool c) ∧ ∃ m, w'' = w.drewN m := by
  subst hb
  exact h.mono fun _ _ ⟨he, m, hm⟩ => ⟨he, n + m, by rw [hm, World.drewN_drewN]⟩
theorem below2 {B : Nat} {w : World} {o : Obj} (h : B ≤ w.heap.size) : B ≤ (w.alloc o).heap.size := by simp; omega
theorem below3 {B : Nat} {w : World} {o o' : Obj} (h : B ≤ w.heap.size) : B ≤ ((w.alloc o).alloc o').heap.size := by simp; omega
theorem len1 {x : List Value} (h : x.length = 1) : ∃ u0, x = [u0] := by
  match x, h with
  | [u0], _ => exact ⟨_, rfl⟩
theorem len2 {x : List Value} (h : x.length = 2) : ∃ u0 u1, x = [u0, u1] := by
  match x, h with
  | [u0, u1], _ => exact ⟨_, _, rfl⟩
theorem len3 {x : List Value} (h : x.length = 3) : ∃ u0 u1 u2, x = [u0, u1, u2] := by
  match x, h with
  | [u0, u1, u2], _ => exact ⟨_, _, _, rfl⟩
theorem len4 {x : List Value} (h : x.length = 4) : ∃ u0 u1 u2 u3, x = [u0, u1, u2, u3] := by
  match x, h with
  | [u0, u1, u2, u3], _ => exact ⟨_, _, _, _, rfl⟩
theorem len6 {x : List Value} (h : x.length = 6) : ∃ u0 u1 u2 u3 u4 u5, x = [u0, u1, u2, u3, u4, u5] := by
  match x, h with
  | [u0, u1, u2, u3, u4, u5], _ => exact ⟨_, _, _, _, _, _, rfl⟩
theorem len8 {x : List Value} (h : x.length = 8) : ∃ u0 u1 u2 u3 u4 u5 u6 u7, x = [u0, u1, u2, u3, u4, u5, u6, u7] := by
  match x, h with
  | [u0, u1, u2, u3, u4, u5, u6, u7], _ => exact ⟨_, _, _, _, _, _, _, _, rfl⟩
end Go.Proofs.YtdkoafmgenbkbaaDoor
namespace Go.Proofs.YtdkoafmgenbkbaaDoor
set_option linter.unusedSimpArgs false
set_option linter.unusedVariables false
open Go.RowKit Go.ChangeShapes Go.WideShapes Go.Deep

structure PropDef where
  name : ByteArray
  type : Int
  deriving DecidableEq
structure KidDef where
  role : ByteArray
  concept : ByteArray
  min : Int
  max : Int
  deriving DecidableEq
structure RefDef where
  role : ByteArray
  concept : ByteArray
  need : Bool
  deriving DecidableEq
structure Concept where
  name : ByteArray
  super : ByteArray
  abs : Bool
  props : List PropDef
  kids : List KidDef
  refs : List RefDef
  deriving DecidableEq
structure Rule where
  concept : ByteArray
  name : ByteArray
  scope : Bool
  expr : ByteArray
  deriving DecidableEq
structure Side where
  kind : Int
  name : ByteArray
  num : Int
  args : List Int
  deriving DecidableEq
structure Equation where
  concept : ByteArray
  left : List Side
  right : List Side
  deriving DecidableEq
structure Cell where
  kind : Int
  text : ByteArray
  mark : ByteArray
  deriving DecidableEq
structure Editor where
  concept : ByteArray
  cells : List Cell
  deriving DecidableEq
structure Template where
  concept : ByteArray
  pieces : List Cell
  deriving DecidableEq
structure Language where
  name : ByteArray
  version : Int
  uses : List ByteArray
  concepts : List Concept
  rules : List Rule
  equations : List Equation
  editors : List Editor
  templates : List Template
  deriving DecidableEq
def PropDef.cells (d : PropDef) : List Value := [.string d.name, .int .i64 d.type]
def PropDef.ok (d : PropDef) : Prop := (Lit.int .i64 d.type).wf = true ∧ d.name.size ≤ maxLen
def PropDef.Is (x : List Value) (d : PropDef) : Prop := x = d.cells ∧ d.ok
def KidDef.cells (d : KidDef) : List Value := [.string d.role, .string d.concept, .int .i64 d.min, .int .i64 d.max]
def KidDef.ok (d : KidDef) : Prop := (Lit.int .i64 d.min).wf = true ∧ (Lit.int .i64 d.max).wf = true ∧ d.role.size ≤ maxLen ∧ d.concept.size ≤ maxLen
def KidDef.Is (x : List Value) (d : KidDef) : Prop := x = d.cells ∧ d.ok
def RefDef.cells (d : RefDef) : List Value := [.string d.role, .string d.concept, .bool d.need]
def RefDef.ok (d : RefDef) : Prop := d.role.size ≤ maxLen ∧ d.concept.size ≤ maxLen
def RefDef.Is (x : List Value) (d : RefDef) : Prop := x = d.cells ∧ d.ok
def Rule.cells (d : Rule) : List Value := [.string d.concept, .string d.name, .bool d.scope, .string d.expr]
def Rule.ok (d : Rule) : Prop := d.concept.size ≤ maxLen ∧ d.name.size ≤ maxLen ∧ d.expr.size ≤ maxLen
def Rule.Is (x : List Value) (d : Rule) : Prop := x = d.cells ∧ d.ok
def Cell.cells (d : Cell) : List Value := [.int .i64 d.kind, .string d.text, .string d.mark]
def Cell.ok (d : Cell) : Prop := (Lit.int .i64 d.kind).wf = true ∧ d.text.size ≤ maxLen ∧ d.mark.size ≤ maxLen
def Cell.Is (x : List Value) (d : Cell) : Prop := x = d.cells ∧ d.ok

def IsText (x : List Value) (s : ByteArray) : Prop := x = [.string s] ∧ s.size ≤ maxLen
def IsInt (x : List Value) (n : Int) : Prop := x = [.int .i64 n] ∧ (Lit.int .i64 n).wf = true

/-- the most elements that a list that came in can have, of so many bytes each (the reach) -/
def Fit (n bytes : Nat) : Prop := n * bytes ≤ 140737488355328

def Side.Is (w : World) (B : Nat) (x : List Value) (d : Side) : Prop :=
  ∃ v, x = [.int .i64 d.kind, .string d.name, .int .i64 d.num, v] ∧ SlR w B 1 IsInt v d.args ∧ Fit d.args.length 8 ∧ (Lit.int .i64 d.kind).wf = true ∧ d.name.size ≤ maxLen ∧ (Lit.int .i64 d.num).wf = true
def Concept.Is (w : World) (B : Nat) (x : List Value) (d : Concept) : Prop :=
  ∃ v1 v2 v3, x = [.string d.name, .string d.super, .bool d.abs, v1, v2, v3] ∧ SlR w B 2 PropDef.Is v1 d.props ∧ SlR w B 4 KidDef.Is v2 d.kids ∧ SlR w B 3 RefDef.Is v3 d.refs ∧
    Fit d.props.length 24 ∧ Fit d.kids.length 48 ∧ Fit d.refs.length 40 ∧ d.name.size ≤ maxLen ∧ d.super.size ≤ maxLen
def Equation.Is (w : World) (B : Nat) (x : List Value) (d : Equation) : Prop :=
  ∃ v1 v2, x = [.string d.concept, v1, v2] ∧ SlR w B 4 (Side.Is w B) v1 d.left ∧ SlR w B 4 (Side.Is w B) v2 d.right ∧ Fit d.left.length 56 ∧ Fit d.right.length 56 ∧ d.concept.size ≤ maxLen
def Editor.Is (w : World) (B : Nat) (x : List Value) (d : Editor) : Prop :=
  ∃ v, x = [.string d.concept, v] ∧ SlR w B 3 Cell.Is v d.cells ∧ Fit d.cells.length 40 ∧ d.concept.size ≤ maxLen
def Template.Is (w : World) (B : Nat) (x : List Value) (d : Template) : Prop :=
  ∃ v, x = [.string d.concept, v] ∧ SlR w B 3 Cell.Is v d.pieces ∧ Fit d.pieces.length 40 ∧ d.concept.size ≤ maxLen
/-- the cells of a definition -/
def Language.Is (w : World) (B : Nat) (x : List Value) (d : Language) : Prop :=
  ∃ v1 v2 v3 v4 v5 v6, x = [.string d.name, .int .i64 d.version, v1, v2, v3, v4, v5, v6] ∧ SlR w B 1 IsText v1 d.uses ∧ SlR w B 6 (Concept.Is w B) v2 d.concepts ∧ SlR w B 4 Rule.Is v3 d.rules ∧
    SlR w B 3 (Equation.Is w B) v4 d.equations ∧ SlR w B 2 (Editor.Is w B) v5 d.editors ∧ SlR w B 2 (Template.Is w B) v6 d.templates ∧
    (Fit d.uses.length 16 ∧ Fit d.concepts.length 112 ∧ Fit d.rules.length 56 ∧ Fit d.equations.length 64 ∧ Fit d.editors.length 40 ∧ Fit d.templates.length 40) ∧ d.name.size ≤ maxLen ∧ (Lit.int .i64 d.version).wf = true

section
variable {w w' : World} {B B' : Nat} {x : List Value}
theorem Side.Is.keep {d : Side} (h : Side.Is w B x d) (hk : ∀ p : Addr, p.block < B → w'.cell? p = w.cell? p) (hB : B ≤ B') : Side.Is w' B' x d := by
  obtain ⟨v, h0, h1, h2⟩ := h
  exact ⟨v, h0, h1.keep hk (fun _ _ r => r) hB, h2⟩
theorem Concept.Is.keep {d : Concept} (h : Concept.Is w B x d) (hk : ∀ p : Addr, p.block < B → w'.cell? p = w.cell? p) (hB : B ≤ B') : Concept.Is w' B' x d := by
  obtain ⟨v1, v2, v3, h0, h1, h2, h3, h4⟩ := h
  exact ⟨v1, v2, v3, h0, h1.keep hk (fun _ _ r => r) hB, h2.keep hk (fun _ _ r => r) hB, h3.keep hk (fun _ _ r => r) hB, h4⟩
theorem Equation.Is.keep {d : Equation} (h : Equation.Is w B x d) (hk : ∀ p : Addr, p.block < B → w'.cell? p = w.cell? p) (hB : B ≤ B') : Equation.Is w' B' x d := by
  obtain ⟨v1, v2, h0, h1, h2, h3⟩ := h
  exact ⟨v1, v2, h0, h1.keep hk (fun _ _ r => r.keep hk hB) hB, h2.keep hk (fun _ _ r => r.keep hk hB) hB, h3⟩
theorem Editor.Is.keep {d : Editor} (h : Editor.Is w B x d) (hk : ∀ p : Addr, p.block < B → w'.cell? p = w.cell? p) (hB : B ≤ B') : Editor.Is w' B' x d := by
  obtain ⟨v, h0, h1, h2⟩ := h
  exact ⟨v, h0, h1.keep hk (fun _ _ r => r) hB, h2⟩
theorem Template.Is.keep {d : Template} (h : Template.Is w B x d) (hk : ∀ p : Addr, p.block < B → w'.cell? p = w.cell? p) (hB : B ≤ B') : Template.Is w' B' x d := by
  obtain ⟨v, h0, h1, h2⟩ := h
  exact ⟨v, h0, h1.keep hk (fun _ _ r => r) hB, h2⟩
theorem Language.Is.keep {d : Language} (h : Language.Is w B x d) (hk : ∀ p : Addr, p.block < B → w'.cell? p = w.cell? p) (hB : B ≤ B') : Language.Is w' B' x d := by
  obtain ⟨v1, v2, v3, v4, v5, v6, h0, h1, h2, h3, h4, h5, h6, h7⟩ := h
  exact ⟨v1, v2, v3, v4, v5, v6, h0, h1.keep hk (fun _ _ r => r) hB, h2.keep hk (fun _ _ r => r.keep hk hB) hB, h3.keep hk (fun _ _ r => r) hB, h4.keep hk (fun _ _ r => r.keep hk hB) hB, h5.keep hk (fun _ _ r => r.keep hk hB) hB, h6.keep hk (fun _ _ r => r.keep hk hB) hB, h7⟩
end

theorem Side.Is.shape {w : World} {B : Nat} (x : List Value) (d : Side) (h : Side.Is w B x d) : ∃ (e0 : Int) (e1 : ByteArray) (e2 : Int) (e3 : Option Addr) (n3 c3 : Nat), x = [.int .i64 e0, .string e1, .int .i64 e2, .slice e3 n3 c3] := by
  obtain ⟨v, rfl, h1, _⟩ := h
  obtain ⟨a, n, c, rfl⟩ := h1.form'
  exact ⟨_, _, _, _, _, _, rfl⟩
theorem Concept.Is.shape {w : World} {B : Nat} (x : List Value) (d : Concept) (h : Concept.Is w B x d) : ∃ (e0 : ByteArray) (e1 : ByteArray) (e2 : Bool) (e3 : Option Addr) (n3 c3 : Nat) (e4 : Option Addr) (n4 c4 : Nat) (e5 : Option Addr) (n5 c5 : Nat), x = [.string e0, .string e1, .bool e2, .slice e3 n3 c3, .slice e4 n4 c4, .slice e5 n5 c5] := by
  obtain ⟨v1, v2, v3, rfl, h1, h2, h3, _⟩ := h
  obtain ⟨_, _, _, rfl⟩ := h1.form'
  obtain ⟨_, _, _, rfl⟩ := h2.form'
  obtain ⟨_, _, _, rfl⟩ := h3.form'
  exact ⟨_, _, _, _, _, _, _, _, _, _, _, _, rfl⟩
theorem Equation.Is.shape {w : World} {B : Nat} (x : List Value) (d : Equation) (h : Equation.Is w B x d) : ∃ (e0 : ByteArray) (e1 : Option Addr) (n1 c1 : Nat) (e2 : Option Addr) (n2 c2 : Nat), x = [.string e0, .slice e1 n1 c1, .slice e2 n2 c2] := by
  obtain ⟨v1, v2, rfl, h1, h2, _⟩ := h
  obtain ⟨_, _, _, rfl⟩ := h1.form'
  obtain ⟨_, _, _, rfl⟩ := h2.form'
  exact ⟨_, _, _, _, _, _, _, rfl⟩
theorem Editor.Is.shape {w : World} {B : Nat} (x : List Value) (d : Editor) (h : Editor.Is w B x d) : ∃ (e0 : ByteArray) (e1 : Option Addr) (n1 c1 : Nat), x = [.string e0, .slice e1 n1 c1] := by
  obtain ⟨v1, rfl, h1, _⟩ := h
  obtain ⟨_, _, _, rfl⟩ := h1.form'
  exact ⟨_, _, _, _, rfl⟩
theorem Template.Is.shape {w : World} {B : Nat} (x : List Value) (d : Template) (h : Template.Is w B x d) : ∃ (e0 : ByteArray) (e1 : Option Addr) (n1 c1 : Nat), x = [.string e0, .slice e1 n1 c1] := by
  obtain ⟨v1, rfl, h1, _⟩ := h
  obtain ⟨_, _, _, rfl⟩ := h1.form'
  exact ⟨_, _, _, _, rfl⟩
end Go.Proofs.YtdkoafmgenbkbaaDoor
namespace Go.Proofs.YtdkoafmgenbkbaaDoor
set_option linter.unusedSimpArgs false
set_option linter.unusedVariables false
open Go.RowKit

/-- cells in a row that read as a list -/
def FlatR {α : Type} (size : Nat) (R : List Value → α → Prop) (xs : List Value) (l : List α) : Prop :=
  xs.length = l.length * size ∧ ∀ (i : Nat) (y : α), l[i]? = some y → R ((xs.drop (i * size)).take size) y

theorem FlatR.nil_ {α : Type} {size : Nat} {R : List Value → α → Prop} : FlatR size R [] ([] : List α) := ⟨by simp, fun i y h => by simp at h⟩
theorem FlatR.app {α : Type} {size : Nat} {R : List Value → α → Prop} {xs ys : List Value} {l m : List α} (h : FlatR size R xs l) (k : FlatR size R ys m) : FlatR size R (xs ++ ys) (l ++ m) := by
  refine ⟨by rw [List.length_append, h.1, k.1, List.length_append, Nat.add_mul], fun i y hy => ?_⟩
  rcases Nat.lt_or_ge i l.length with hi | hi
  · rw [List.getElem?_append_left hi] at hy
    have hle : i * size + size ≤ xs.length := by
      rw [h.1]
      calc i * size + size = (i + 1) * size := by rw [Nat.succ_mul]
        _ ≤ l.length * size := Nat.mul_le_mul_right _ hi
    rw [List.drop_append_of_le_length (by omega), List.take_append_of_le_length (by rw [List.length_drop]; omega)]
    exact h.2 i y hy
  · rw [List.getElem?_append_right hi] at hy
    have e : (xs ++ ys).drop (i * size) = ys.drop ((i - l.length) * size) := by
      have : i * size = xs.length + (i - l.length) * size := by rw [h.1, ← Nat.add_mul]; congr 1; omega
      rw [this, List.drop_append, List.drop_of_length_le (by omega), Nat.add_sub_cancel_left, List.nil_append]
    rw [e]
    exact k.2 _ y hy
theorem FlatR.one {α : Type} {size : Nat} {R : List Value → α → Prop} {xs : List Value} {y : α} (hl : xs.length = size) (h : R xs y) : FlatR size R xs [y] := by
  refine ⟨by simp [hl], fun i z hz => ?_⟩
  rcases i with _ | i
  · simp at hz
    subst hz
    rw [Nat.zero_mul, List.drop_zero, List.take_of_length_le (by omega)]
    exact h
  · simp at hz
theorem FlatR.imp {α : Type} {size : Nat} {R R' : List Value → α → Prop} {xs : List Value} {l : List α} (h : FlatR size R xs l) (hR : ∀ x y, R x y → R' x y) : FlatR size R' xs l := ⟨h.1, fun i y hy => hR _ _ (h.2 i y hy)⟩

/-- a row of the call's own that reads as a list -/
def Own1 {α : Type} (w : World) (base : Nat) (e : TypeId) (size : Nat) (R : List Value → α → Prop) (v : Value) (l : List α) : Prop :=
  ∃ xs, w.ownsRow base e size v l.length xs ∧ FlatR size R xs l

section
variable {α : Type} {w w' : World} {base size : Nat} {e : TypeId} {R R' : List Value → α → Prop} {v : Value} {l : List α}
theorem Own1.alloc (h : Own1 w base e size R v l) (o : Obj) : Own1 (w.alloc o) base e size R v l := by
  obtain ⟨xs, h1, h2⟩ := h
  exact ⟨xs, h1.alloc o, h2⟩
theorem Own1.drew (h : Own1 w base e size R v l) : Own1 w.drew base e size R v l := h
theorem Own1.drewN (h : Own1 w base e size R v l) (n : Nat) : Own1 (w.drewN n) base e size R v l := h
theorem Own1.imp (h : Own1 w base e size R v l) (hR : ∀ x y, R x y → R' x y) : Own1 w base e size R' v l := by
  obtain ⟨xs, h1, h2⟩ := h
  exact ⟨xs, h1, h2.imp hR⟩
theorem Own1.mono {base' : Nat} (h : Own1 w base e size R v l) (hb : base' ≤ base) : Own1 w base' e size R v l := by
  obtain ⟨xs, ⟨h0, h1⟩, h2⟩ := h
  refine ⟨xs, ⟨h0, ?_⟩, h2⟩
  rcases h1 with h1 | ⟨g, cap, cur, r1, r2, r3⟩
  · exact .inl h1
  · exact .inr ⟨g, cap, cur, r1, by omega, r3⟩
/-- behind the growth of a row of another element type -/
theorem Own1.kept {base' size' n' : Nat} {e' : TypeId} {v' : Value} {xs' : List Value} (h : Own1 w base e size R v l) (h' : w.ownsRow base' e' size' v' n' xs') (hne : e ≠ e') (hg : w.grownBy w' v'.ownBlock) : Own1 w' base e size R v l := by
  obtain ⟨xs, h1, h2⟩ := h
  refine ⟨xs, h1.kept hg ?_, h2⟩
  rcases h1.2 with ⟨rfl, _⟩ | ⟨g, cap, cur, rfl, _, hh, _⟩
  · exact .inl rfl
  · refine .inr ?_
    rcases h'.2 with ⟨rfl, _⟩ | ⟨g', cap', cur', rfl, _, hh', _⟩
    · simp [Value.ownBlock]
    · intro he
      simp [Value.ownBlock] at he
      subst he
      rw [hh] at hh'
      injection hh' with hh'
      injection hh' with _ ht
      exact hne ht
/-- below block B, and with B at most the row's own base, it stays -/
theorem Own1.below {B : Nat} (h : Own1 w base e size R v l) (hb : Below B w w') (hB : w.heap.size ≤ B) : Own1 w' base e size R v l := by
  obtain ⟨xs, h1, h2⟩ := h
  refine ⟨xs, ⟨h1.1, ?_⟩, h2⟩
  rcases h1.2 with r | ⟨g, cap, cur, r1, r2, r3, r4⟩
  · exact .inl r
  · have hg : g < w.heap.size := by
      rcases Nat.lt_or_ge g w.heap.size with hlt | hge
      · exact hlt
      · rw [Array.getElem?_eq_none hge] at r3; cases r3
    exact .inr ⟨g, cap, cur, r1, r2, (hb.block g (by omega)).trans r3, r4⟩
theorem Own1.read (h : Own1 w base e size R v l) (hs : 0 < size) : SlR w w.heap.size size R v l := by
  obtain ⟨xs, h1, h2⟩ := h
  rcases h1.2 with ⟨rfl, h0⟩ | ⟨g, cap, cur, rfl, hg, hh, hn, hc, hsz, hxs⟩
  · have : l = [] := List.eq_nil_of_length_eq_zero h0
    subst this
    exact SlR.nil_ _ (by unfold maxLen; omega) _
  · refine ⟨_, cap, rfl, hn, hc, fun hl => ⟨g, 0, rfl, ?_, fun i y hy => ⟨_, ?_, h2.2 i y hy, fun j u hu => ?_⟩⟩⟩
    · rcases Nat.lt_or_ge g w.heap.size with hlt | hge
      · exact hlt
      · rw [Array.getElem?_eq_none hge] at hh; cases hh
    · have hi : i < l.length := (List.getElem?_eq_some_iff.1 hy).1
      have : i * size + size ≤ xs.length := by
        rw [h1.1]
        calc i * size + size = (i + 1) * size := by rw [Nat.succ_mul]
          _ ≤ l.length * size := Nat.mul_le_mul_right _ hi
      rw [List.length_take, List.length_drop]
      omega
    · have hj : j < size := by
        have := (List.getElem?_eq_some_iff.1 hu).1
        rw [List.length_take] at this
        omega
      have hx : xs[i * size + j]? = some u := by
        rw [List.getElem?_take_of_lt hj, List.getElem?_drop] at hu
        exact hu
      have := h1.cells (g := g) rfl _ _ hx
      have e' : ((⟨g, 0, none⟩ : Addr).add (i * size + j)) = ⟨g, 0 + i * size + j, none⟩ := by
        unfold Addr.add
        split
        · rename_i h0
          rw [Nat.zero_add, h0]
        · rw [Nat.zero_add, Nat.zero_add]
      rwa [e'] at this
/-- a slice that is read, as cells in a row -/
theorem SlR.flat {B : Nat} {a : Option Addr} {n c : Nat} (h : SlR w B size R (.slice a n c) l) : ∃ news, FlatR size R news l ∧ (a = none → n = 0) ∧ (∀ ad, a = some ad → 0 < n → ∀ j u, news[j]? = some u → w.cell? (ad.add j) = some u) := by
  obtain ⟨a', c', hv, h1, h2, h3⟩ := h
  injection hv with e1 e2 e3
  subst e1 e2 e3
  rcases Nat.eq_zero_or_pos l.length with h0 | h0
  · have : l = [] := List.eq_nil_of_length_eq_zero h0
    subst this
    exact ⟨[], FlatR.nil_, fun _ => rfl, fun ad _ hn => absurd hn (by simp)⟩
  · obtain ⟨b, off, rfl, hb, hc⟩ := h3 h0
    have key : ∀ m, m ≤ l.length → ∃ news, FlatR size R news (l.take m) ∧ ∀ j u, news[j]? = some u → w.cell? ⟨b, off + j, none⟩ = some u := by
      intro m
      induction m with
      | zero => exact fun _ => ⟨[], by simpa using FlatR.nil_, fun j u hu => by simp at hu⟩
      | succ m ih =>
        intro hm
        obtain ⟨news, hf, hcell⟩ := ih (by omega)
        have hy : l[m]? = some l[m] := List.getElem?_eq_getElem (by omega)
        obtain ⟨x, hx1, hx2, hx3⟩ := hc m _ hy
        refine ⟨news ++ x, ?_, fun j u hu => ?_⟩
        · rw [List.take_succ_eq_append_getElem (by omega)]
          exact hf.app (FlatR.one hx1 hx2)
        · have hln : news.length = m * size := by rw [hf.1, List.length_take, Nat.min_eq_left (by omega)]
          rcases Nat.lt_or_ge j news.length with hj | hj
          · rw [List.getElem?_append_left hj] at hu
            exact hcell j u hu
          · rw [List.getElem?_append_right hj] at hu
            have := hx3 _ u hu
            have e : off + m * size + (j - news.length) = off + j := by omega
            rwa [e] at this
    obtain ⟨news, hf, hcell⟩ := key l.length (Nat.le_refl _)
    rw [List.take_length] at hf
    refine ⟨news, hf, (fun h => by cases h), fun ad had hn j u hu => ?_⟩
    injection had with had
    subst had
    have := hcell j u hu
    have e : ((⟨b, off, none⟩ : Addr).add j) = ⟨b, off + j, none⟩ := by
      unfold Addr.add
      split
      · rename_i h0
        rw [h0, Nat.add_zero]
      · rfl
    rw [e]
    exact this
end

/-- the empty row that a literal without elements makes -/
theorem Own1.empty {α : Type} {w : World} {base size g : Nat} {e : TypeId} {R : List Value → α → Prop} (hg : g = w.heap.size) (hb : base ≤ w.heap.size) : Own1 (w.alloc (.cells #[] e)) base e size R (.slice (some ⟨g, 0, none⟩) 0 0) ([] : List α) := by
  subst hg
  refine ⟨[], ⟨by simp, .inr ⟨w.heap.size, 0, #[], rfl, hb, heap_alloc_new w _, by simp, by simp [maxLen], by simp, by simp⟩⟩, FlatR.nil_⟩
/-- a store into a block ahead of the row's base -/
theorem Own1.setFar {α : Type} {w : World} {base size : Nat} {e : TypeId} {R : List Value → α → Prop} {v : Value} {l : List α} (h : Own1 w base e size R v l) {p : Addr} (hp : p.block < base) (u : Value) : Own1 (w.setCell p u) base e size R v l := by
  obtain ⟨xs, h1, h2⟩ := h
  exact ⟨xs, ownsRow_setCell_below h1 hp u, h2⟩
theorem Own1.form {α : Type} {w : World} {base size : Nat} {e : TypeId} {R : List Value → α → Prop} {v : Value} {l : List α} (h : Own1 w base e size R v l) : ∃ a c, v = .slice a l.length c := by
  obtain ⟨xs, h1, _⟩ := h
  rcases h1.2 with ⟨rfl, h0⟩ | ⟨g, cap, cur, rfl, _⟩
  · exact ⟨_, _, by rw [h0]⟩
  · exact ⟨_, _, rfl⟩
theorem Own1.block {α : Type} {w : World} {base size : Nat} {e : TypeId} {R : List Value → α → Prop} {v : Value} {l : List α} (h : Own1 w base e size R v l) : ∀ k, v.ownBlock = some k → base ≤ k ∧ k < w.heap.size := by
  obtain ⟨xs, h1, _⟩ := h
  exact h1.lt
theorem Own1.kept1 {α β : Type} {w w' : World} {base size base' size' : Nat} {e e' : TypeId} {R : List Value → α → Prop} {R' : List Value → β → Prop} {v v' : Value} {l : List α} {l' : List β} (h : Own1 w base e size R v l) (h' : Own1 w base' e' size' R' v' l') (hne : e ≠ e') (hg : w.grownBy w' v'.ownBlock) : Own1 w' base e size R v l := by
  obtain ⟨xs, h1, _⟩ := h'
  exact h.kept h1 hne hg
/-- one element more in new memory: the row of a literal with one element -/
theorem SlR.new1 {α : Type} {w : World} {size : Nat} {e : TypeId} {R : List Value → α → Prop} {x : List Value} {y : α} {g : Nat} (hg : g = w.heap.size) (hl : x.length = size) (hR : R x y) : SlR (w.alloc (.cells x.toArray e)) (w.heap.size + 1) size R (.slice (some ⟨g, 0, none⟩) 1 1) [y] := by
  subst hg
  refine ⟨some ⟨w.heap.size, 0, none⟩, 1, rfl, Nat.le_refl _, by unfold maxLen; omega, fun _ => ⟨w.heap.size, 0, rfl, by omega, fun i z hz => ?_⟩⟩
  rcases i with _ | i
  · simp at hz
    subst hz
    refine ⟨x, hl, hR, fun j u hu => ?_⟩
    have : (w.alloc (.cells x.toArray e)).heap[w.heap.size]? = some (.cells x.toArray e (0, 0)) := heap_alloc_new w _
    rw [World.cell?]
    show (match (w.alloc (.cells x.toArray e)).heap[w.heap.size]? with | some (.cells c _ _) => _ | _ => none) = _
    rw [this]
    simpa using hu
  · simp at hz

section
variable {P : Program} {α : Type}
theorem run_append_list (w : World) (base B : Nat) (t ty e : TypeId) (i : TypeInfo) (z : Value) (size bytes : Nat) (ht : P.underlying t = some (.slice e)) (hi : P.info? e = some i) (hz : i.zero = some z)
    (hsize : i.size = size) (hby : i.bytes = bytes) (hzs : z.cells.size = size) (hsz : 0 < size) {R : List Value → α → Prop} {l m : List α}
    (v : Value) (hown : Own1 w base e size R v l) (A : Option Addr) (n c : Nat) (hsrc : SlR w B size R (.slice A n c) m)
    (h1 : ∀ x y, R x y → ∀ u ∈ x, u.oneCell' = true) (h63 : l.length + n ≤ maxLen) (hbytes : (l.length + n) * bytes ≤ 140737488355328) (hbase : base ≤ w.heap.size) :
    ∃ v' w', (Builtin.append_ #[t, t] ty #[v, .slice A n c]).run P w = .ok v' w' ∧ Own1 w' base e size R v' (l ++ m) ∧ w.grownBy w' v.ownBlock ∧ (v'.ownBlock = v.ownBlock ∨ v'.ownBlock = some w.heap.size) := by
  obtain ⟨news, hf, hnone, hcell⟩ := hsrc.flat
  have hn : n = m.length := hsrc.len
  obtain ⟨xs, hx, hxf⟩ := hown
  have hone : ∀ u ∈ news, u.oneCell' = true := by
    intro u hu
    obtain ⟨k, hk⟩ := List.mem_iff_getElem?.1 hu
    have hkl : k < news.length := (List.getElem?_eq_some_iff.1 hk).1
    have hkm : k / size < m.length := by rw [hf.1] at hkl; exact Nat.div_lt_of_lt_mul (by rwa [Nat.mul_comm])
    refine h1 _ _ (hf.2 (k / size) _ (List.getElem?_eq_getElem hkm)) u ?_
    refine List.mem_iff_getElem?.2 ⟨k % size, ?_⟩
    rw [List.getElem?_take_of_lt (Nat.mod_lt _ hsz), List.getElem?_drop, Nat.mul_comm, Nat.div_add_mod, hk]
  rcases A with _ | ad
  · have h0 := hnone rfl
    have hm : m = [] := List.eq_nil_of_length_eq_zero (by omega)
    subst hm
    subst h0
    refine ⟨v, w, ?_, ⟨xs, by simpa using hx, by simpa using hxf⟩, World.grownBy.refl w _, .inl rfl⟩
    rcases hx.2 with ⟨rfl, h0'⟩ | ⟨g, cap, cur, rfl, _, _, hnc, _⟩
    · simp [Builtin.append_, run_underlying ht, sizeOf, typeInfo, hi, Builtin.lenOf, Builtin.firstCells]
    · simp [Builtin.append_, run_underlying ht, sizeOf, typeInfo, hi, Builtin.lenOf, Builtin.firstCells, hnc, storeCells]
  · have hcells : ∀ j u, news[j]? = some u → w.cell? (ad.add j) = some u := by
      intro j u hu
      rcases Nat.eq_zero_or_pos n with h0 | h0
      · have hl0 : news.length = 0 := by rw [hf.1, ← hn, h0, Nat.zero_mul]
        have : news = [] := List.eq_nil_of_length_eq_zero hl0
        subst this
        simp at hu
      · exact hcell ad rfl h0 j u hu
    obtain ⟨v', w', hrun, h2, h3, _, h5⟩ := run_append_own_at (P := P) w base t ty e i z size bytes ht hi hz hsize hby hzs hsz v l.length xs hx ad n c news (by rw [hf.1, hn]) hcells hone h63 hbytes hbase
    exact ⟨v', w', hrun, ⟨xs ++ news, by rw [List.length_append, ← hn]; exact h2, hxf.app hf⟩, h3, h5⟩

theorem wpList_append_list {ops : Array Oper} {rest : List Oper} {o : Oper} {a : Act} {Q : Exit → Act → World → Prop} {w : World} (hgd : o.guard = none) (s x : Operand) (t : TypeId)
    (ho : o.op = .call { callee := .builtin .append, args := #[s, x], argTypes := #[t, t] })
    (base B : Nat) (e : TypeId) (i : TypeInfo) (z : Value) (size bytes : Nat) (ht : P.underlying t = some (.slice e)) (hi : P.info? e = some i) (hz : i.zero = some z)
    (hsize : i.size = size) (hby : i.bytes = bytes) (hzs : z.cells.size = size) (hsz : 0 < size) {R : List Value → α → Prop} {l m : List α}
    (v : Value) (hs : a.eval s = v) (hown : Own1 w base e size R v l) (A : Option Addr) (n c : Nat) (hx : a.eval x = .slice A n c) (hsrc : SlR w B size R (.slice A n c) m)
    (N : Nat) (hN : N = l.length + n) (h1 : ∀ x y, R x y → ∀ u ∈ x, u.oneCell' = true) (h63 : l.length + n ≤ maxLen) (hbytes : (l.length + n) * bytes ≤ 140737488355328) (hbase : base ≤ w.heap.size)
    (h : ∀ (a' : Option Addr) (c' : Nat) w', Own1 w' base e size R (.slice a' N c') (l ++ m) → w.grownBy w' v.ownBlock → wpList P ops Q rest (a.put o.dst (.slice a' N c')) w') : wpList P ops Q (o :: rest) a w := by
  refine wpList_plain hgd fun K hK => ?_
  obtain ⟨v', w', hrun, h2, h3, _⟩ := run_append_list (P := P) w base B t o.type e i z size bytes ht hi hz hsize hby hzs hsz v hown A n c hsrc h1 h63 hbytes hbase
  unfold Oper.wp execOp
  simp only [ho, resolve, invoke, builtin, Sem.run_bind, Sem.run_pure, Result.andThen_ok, List.map_toArray, List.map_cons, List.map_nil, hs, hx, hrun]
  obtain ⟨a', c', rfl⟩ := h2.form
  have e : (l ++ m).length = N := by rw [hN, List.length_append, hsrc.len]
  rw [e] at h2 ⊢
  exact hK _ _ (h a' c' w' h2 h3)
theorem step_append_list {ops : Array Oper} {o : Oper} {a : Act} {K : Act → World → Prop} {Q : Exit → Act → World → Prop} {E : Prop} {w : World} (hgd : o.guard = none) (s x : Operand) (t : TypeId)
    (ho : o.op = .call { callee := .builtin .append, args := #[s, x], argTypes := #[t, t] })
    (base B : Nat) (e : TypeId) (i : TypeInfo) (z : Value) (size bytes : Nat) (ht : P.underlying t = some (.slice e)) (hi : P.info? e = some i) (hz : i.zero = some z)
    (hsize : i.size = size) (hby : i.bytes = bytes) (hzs : z.cells.size = size) (hsz : 0 < size) {R : List Value → α → Prop} {l m : List α}
    (v : Value) (hs : a.eval s = v) (hown : Own1 w base e size R v l) (A : Option Addr) (n c : Nat) (hx : a.eval x = .slice A n c) (hsrc : SlR w B size R (.slice A n c) m)
    (N : Nat) (hN : N = l.length + n) (h1 : ∀ x y, R x y → ∀ u ∈ x, u.oneCell' = true) (h63 : l.length + n ≤ maxLen) (hbytes : (l.length + n) * bytes ≤ 140737488355328) (hbase : base ≤ w.heap.size)
    (h : ∀ (a' : Option Addr) (c' : Nat) w', Own1 w' base e size R (.slice a' N c') (l ++ m) → w.grownBy w' v.ownBlock → K (a.put o.dst (.slice a' N c')) w') : if Region.wanted o (yielded ops a.tmps) = true then Oper.wp P o a w K Q else E := by
  rw [if_pos (by simp [Region.wanted, hgd])]
  obtain ⟨v', w', hrun, h2, h3, _⟩ := run_append_list (P := P) w base B t o.type e i z size bytes ht hi hz hsize hby hzs hsz v hown A n c hsrc h1 h63 hbytes hbase
  unfold Oper.wp execOp
  simp only [ho, resolve, invoke, builtin, Sem.run_bind, Sem.run_pure, Result.andThen_ok, List.map_toArray, List.map_cons, List.map_nil, hs, hx, hrun]
  obtain ⟨a', c', rfl⟩ := h2.form
  have e : (l ++ m).length = N := by rw [hN, List.length_append, hsrc.len]
  rw [e] at h2 ⊢
  exact h a' c' w' h2 h3
end

/-- from w to w' every row from 'base' on stays, whatever it holds, but for rows of the element types of 'bad' -/
def Stays (w w' : World) (base : Nat) (bad : TypeId → Bool) : Prop :=
  ∀ (α : Type) (size : Nat) (e : TypeId) (R : List Value → α → Prop) (v : Value) (l : List α), bad e = false → Own1 w base e size R v l → Own1 w' base e size R v l
theorem Stays.refl (w : World) (base : Nat) (bad : TypeId → Bool) : Stays w w base bad := fun _ _ _ _ _ _ _ h => h
theorem Stays.trans {a b c : World} {base : Nat} {bad : TypeId → Bool} (h : Stays a b base bad) (k : Stays b c base bad) : Stays a c base bad := fun α size e R v l hb ho => k α size e R v l hb (h α size e R v l hb ho)
theorem Stays.worse {a b : World} {base : Nat} {bad bad' : TypeId → Bool} (h : Stays a b base bad) (hb : ∀ e, bad' e = false → bad e = false) : Stays a b base bad' := fun α size e R v l hbe ho => h α size e R v l (hb e hbe) ho
theorem Stays.of_below {a b : World} {base B : Nat} (h : Below B a b) (hB : a.heap.size ≤ B) : Stays a b base (fun _ => false) := fun _ _ _ _ _ _ _ ho => ho.below h hB
theorem Stays.of_set {w : World} {base : Nat} {p : Addr} (hp : p.block < base) (u : Value) : Stays w (w.setCell p u) base (fun _ => false) := fun _ _ _ _ _ _ _ ho => ho.setFar hp u
theorem Stays.of_alloc (w : World) (base : Nat) (o : Obj) : Stays w (w.alloc o) base (fun _ => false) := fun _ _ _ _ _ _ _ ho => ho.alloc o
theorem Stays.of_drew (w : World) (base : Nat) : Stays w w.drew base (fun _ => false) := fun _ _ _ _ _ _ _ ho => ho
theorem Stays.of_grown {α : Type} {a b : World} {base base' size' : Nat} {e' : TypeId} {R' : List Value → α → Prop} {v' : Value} {l' : List α} (h' : Own1 a base' e' size' R' v' l') (hg : a.grownBy b v'.ownBlock) : Stays a b base (fun e => e == e') :=
  fun _ _ e _ _ _ hb ho => ho.kept1 h' (by simpa using hb) hg
/-- a block that is known whole -/
def Blk (w : World) (g : Nat) (t : TypeId) (cs : Array Value) : Prop := w.heap[g]? = some (.cells cs t (0, 0))
theorem Blk.lt {w : World} {g : Nat} {t : TypeId} {cs : Array Value} (h : Blk w g t cs) : g < w.heap.size := by
  rcases Nat.lt_or_ge g w.heap.size with hlt | hge
  · exact hlt
  · unfold Blk at h; rw [Array.getElem?_eq_none hge] at h; cases h
theorem Blk.cell {w : World} {g : Nat} {t : TypeId} {cs : Array Value} (h : Blk w g t cs) {i : Nat} {u : Value} (hi : cs[i]? = some u) : w.cell? ⟨g, i, none⟩ = some u := by
  unfold Blk at h
  simp [World.cell?, h, hi]
theorem Blk.frozen {w : World} {g : Nat} {t : TypeId} {cs : Array Value} (h : Blk w g t cs) (i : Nat) : w.frozen? ⟨g, i, none⟩ = false := by
  unfold Blk at h
  simp [World.frozen?, h]
theorem Blk.keep {w w' : World} {g : Nat} {t : TypeId} {cs : Array Value} (h : Blk w g t cs) (hk : w'.heap[g]? = w.heap[g]?) : Blk w' g t cs := hk.trans h
theorem Blk.below {w w' : World} {g B : Nat} {t : TypeId} {cs : Array Value} (h : Blk w g t cs) (hb : Below B w w') (hg : g < B) : Blk w' g t cs := (hb.block g hg).trans h
theorem Blk.grown {w w' : World} {g : Nat} {t : TypeId} {cs : Array Value} {row : Option Nat} (h : Blk w g t cs) (hb : w.grownBy w' row) (hg : some g ≠ row) : Blk w' g t cs := (hb.block g h.lt hg).trans h
theorem Blk.alloc {w : World} {g : Nat} {t : TypeId} {cs : Array Value} (h : Blk w g t cs) (o : Obj) : Blk (w.alloc o) g t cs := (Below.heap_alloc w o g h.lt).trans h
theorem Blk.new (w : World) (t : TypeId) (cs : Array Value) : Blk (w.alloc (.cells cs t)) w.heap.size t cs := heap_alloc_new w _
theorem Blk.new_ {w : World} {g : Nat} (hg : g = w.heap.size) (t : TypeId) (cs : Array Value) : Blk (w.alloc (.cells cs t)) g t cs := by subst hg; exact heap_alloc_new w _
theorem Blk.set_ {w : World} {g : Nat} {t : TypeId} {cs : Array Value} (h : Blk w g t cs) (i : Nat) (u : Value) : Blk (w.setCell ⟨g, i, none⟩ u) g t (cs.setIfInBounds i u) := by
  unfold Blk at h ⊢
  simp [World.setCell, Array.getElem?_modify, h]
theorem Blk.far {w : World} {g : Nat} {t : TypeId} {cs : Array Value} (h : Blk w g t cs) {p : Addr} (hp : g ≠ p.block) (u : Value) : Blk (w.setCell p u) g t cs := (Below.heap_setCell w p u g hp).trans h
end Go.Proofs.YtdkoafmgenbkbaaDoor
namespace Go.Proofs.YtdkoafmgenbkbaaDoor
set_option linter.unusedSimpArgs false
set_option linter.unusedVariables false
open Go.RowKit

/-- a text's bytes, as numbers -/
def bs (s : ByteArray) : List Nat := s.data.toList.map UInt8.toNat
/-- a text, of numbers -/
def txt (l : List Nat) : ByteArray := ⟨(l.map UInt8.ofNat).toArray⟩
def Bytes (l : List Nat) : Prop := ∀ n ∈ l, n < 256

theorem bs_len (s : ByteArray) : (bs s).length = s.size := by
  unfold bs
  rw [List.length_map, Array.length_toList]
  rfl
theorem bs_at {s : ByteArray} {i : Nat} (h : i < s.size) : (bs s)[i]? = some (s[i]'h).toNat := by
  have h' : i < s.data.size := h
  have e : s[i]'h = s.data[i]'h' := rfl
  rw [e]
  unfold bs
  rw [List.getElem?_map, Array.getElem?_toList, Array.getElem?_eq_getElem h']
  rfl
theorem bs_bytes (s : ByteArray) : Bytes (bs s) := by
  intro n h
  simp only [bs, List.mem_map] at h
  obtain ⟨b, _, rfl⟩ := h
  exact b.toNat_lt
theorem txt_bs (s : ByteArray) : txt (bs s) = s := by
  obtain ⟨⟨l⟩⟩ := s
  simp [txt, bs, Function.comp_def]
theorem bs_txt {l : List Nat} (h : Bytes l) : bs (txt l) = l := by
  simp only [txt, bs, List.toList_toArray, List.map_map]
  conv => rhs; rw [← List.map_id l]
  apply List.map_congr_left
  intro n hn
  have := h n hn
  simp [Nat.mod_eq_of_lt this]
theorem bs_append (s t : ByteArray) : bs (s ++ t) = bs s ++ bs t := by
  have : (s ++ t).data = s.data ++ t.data := ByteArray.data_append ..
  simp [bs, this]
theorem bs_inj {s t : ByteArray} (h : bs s = bs t) : s = t := by rw [← txt_bs s, ← txt_bs t, h]
theorem txt_size (l : List Nat) : (txt l).size = l.length := by simp [txt, ByteArray.size]
theorem bs_extract (s : ByteArray) (i j : Nat) : bs (s.extract i j) = ((bs s).take j).drop i := by
  have : (s.extract i j).data = s.data.extract i j := ByteArray.data_extract ..
  simp [bs, this, List.extract_eq_take_drop, List.map_take, List.map_drop, List.drop_take]
theorem bytes_nil : Bytes [] := fun n h => by simp at h
theorem bytes_app {l m : List Nat} (h : Bytes l) (k : Bytes m) : Bytes (l ++ m) := fun n hn => by
  rcases List.mem_append.1 hn with h' | h'
  · exact h n h'
  · exact k n h'

/-- a byte's cell -/
def IsByte (x : List Value) (n : Nat) : Prop := x = [.int .u8 (n : Int)] ∧ n < 256
theorem IsByte.one (x : List Value) (n : Nat) (h : IsByte x n) : ∀ u ∈ x, u.oneCell' = true := by
  intro u hu
  rw [h.1] at hu
  simp at hu
  subst hu
  rfl
theorem byteRow {xs : List Value} {l : List Nat} (h : FlatR 1 IsByte xs l) : xs = l.map (fun (n : Nat) => Value.int .u8 (n : Int)) ∧ Bytes l := by
  obtain ⟨h1, h2⟩ := h
  have h1' : xs.length = l.length := by omega
  refine ⟨List.ext_getElem? fun i => ?_, fun n hn => ?_⟩
  · by_cases hi : i < l.length
    · have hy : l[i]? = some l[i] := List.getElem?_eq_getElem hi
      have := (h2 i _ hy).1
      rw [Nat.mul_one, List.drop_eq_getElem_cons (by omega), List.take_succ_cons, List.take_zero] at this
      rw [List.getElem?_eq_getElem (by omega), List.getElem?_map, hy]
      injection this with e2 _
      rw [e2]
      rfl
    · rw [List.getElem?_eq_none (by omega), List.getElem?_eq_none (by simp; omega)]
  · obtain ⟨i, hi⟩ := List.mem_iff_getElem?.1 hn
    exact (h2 i n hi).2
theorem byteRow_mk {l : List Nat} (h : Bytes l) : FlatR 1 IsByte (l.map (fun (n : Nat) => Value.int .u8 (n : Int))) l := by
  refine ⟨by simp, fun i y hy => ?_⟩
  have hi : i < l.length := (List.getElem?_eq_some_iff.1 hy).1
  have hm : i < (l.map (fun (n : Nat) => Value.int .u8 (n : Int))).length := by simpa using hi
  rw [Nat.mul_one, List.drop_eq_getElem_cons hm]
  refine ⟨by simp [(List.getElem?_eq_some_iff.1 hy).2], h y (List.mem_iff_getElem?.2 ⟨i, hy⟩)⟩
theorem strCells_eq (s : ByteArray) : Lib.strCells s = (bs s).map (fun (n : Nat) => Value.int .u8 (n : Int)) := by
  simp [Lib.strCells, bs, Function.comp_def]

section
variable {P : Program}
/-- 'string(b)' of a byte row of the call's own -/
theorem run_text_of_row {w : World} {base : Nat} {v : Value} {l : List Nat} (src dst e : TypeId) (hs : P.underlying src = some (.slice e)) (he : P.underlying e = some (.int .u8)) (hd : P.underlying dst = some .string) (h : Own1 w base e 1 IsByte v l) :
    (convert src dst v).run P w = .ok (.string (txt l)) w := by
  obtain ⟨xs, h1, h2⟩ := h
  obtain ⟨rfl, hb⟩ := byteRow h2
  rcases h1.2 with ⟨rfl, h0⟩ | ⟨g, cap, cur, rfl, _⟩
  · have : l = [] := List.eq_nil_of_length_eq_zero h0
    subst this
    rw [run_convert_bytes_string w src dst e none 0 0 hs he hd]
    rfl
  · have hl : (l.map UInt8.ofNat).length = l.length := by simp
    have hcell := h1.cells (g := g) rfl
    have := run_convert_bytes_back (P := P) w src dst e ⟨g, 0, none⟩ cap (l.map UInt8.ofNat) hs he hd (fun j hj => by
      have hj' : j < l.length := by simpa using hj
      have hn : l[j] < 256 := hb _ (List.getElem_mem hj')
      refine hcell j _ ?_
      simp [List.getElem?_eq_getElem hj', Nat.mod_eq_of_lt hn])
    rw [hl] at this
    exact this
theorem below_of_grown {α : Type} {w w' : World} {base size : Nat} {e : TypeId} {R : List Value → α → Prop} {v : Value} {l : List α} (h : Own1 w base e size R v l) (hb : base ≤ w.heap.size) (hg : w.grownBy w' v.ownBlock) : Below base w w' :=
  (Below.refl base w).grown hg hb (fun g hg => (h.block g hg).1)
/-- 'append(b, s...)' onto a byte row of the call's own -/
theorem wpList_append_text {ops : Array Oper} {rest : List Oper} {o : Oper} {a : Act} {Q : Exit → Act → World → Prop} {w : World} (hgd : o.guard = none) (sl x : Operand) (t u : TypeId)
    (ho : o.op = .call { callee := .builtin .append, args := #[sl, x], argTypes := #[t, u] })
    (base : Nat) (e : TypeId) (i : TypeInfo) (ht : P.underlying t = some (.slice e)) (hu : P.underlying u = some .string) (hi : P.info? e = some i) (hz : i.zero = some (.int .u8 0))
    (hsize : i.size = 1) (hby : i.bytes = 1)
    (v : Value) (l : List Nat) (hs : a.eval sl = v) (hown : Own1 w base e 1 IsByte v l) (s : ByteArray) (hx : a.eval x = .string s)
    (h63 : l.length + s.size ≤ maxLen) (hbytes : l.length + s.size ≤ 140737488355328) (hbase : base ≤ w.heap.size)
    (h : ∀ (a' : Option Addr) (n' c' : Nat) w', Own1 w' base e 1 IsByte (.slice a' n' c') (l ++ bs s) → Below base w w' → wpList P ops Q rest (a.put o.dst (.slice a' n' c')) w') : wpList P ops Q (o :: rest) a w := by
  have hown0 := hown
  obtain ⟨xs, h1, h2⟩ := hown
  obtain ⟨rfl, hb⟩ := byteRow h2
  refine Lib.wpList_append_own_string w hgd sl x t u ho base e i ht hu hi hz hsize hby v l.length _ hs h1 s hx h63 hbytes hbase (fun v' w' g1 g2 _ => ?_)
  rw [strCells_eq, ← List.map_append] at g1
  have hl : (l ++ bs s).length = l.length + s.size := by rw [List.length_append, bs_len]
  have hown : Own1 w' base e 1 IsByte v' (l ++ bs s) := ⟨_, by rw [hl]; exact g1, byteRow_mk (bytes_app hb (bs_bytes s))⟩
  obtain ⟨a', c', rfl⟩ := hown.form
  exact h _ _ _ w' hown (below_of_grown hown0 hbase g2)
/-- 'append(b, ..)' of bytes that are read onto a byte row of the call's own -/
theorem wpList_append_bytes {ops : Array Oper} {rest : List Oper} {o : Oper} {a : Act} {Q : Exit → Act → World → Prop} {w : World} (hgd : o.guard = none) (s x : Operand) (t : TypeId)
    (ho : o.op = .call { callee := .builtin .append, args := #[s, x], argTypes := #[t, t] })
    (base B : Nat) (e : TypeId) (i : TypeInfo) (ht : P.underlying t = some (.slice e)) (hi : P.info? e = some i) (hz : i.zero = some (.int .u8 0)) (hsize : i.size = 1) (hby : i.bytes = 1)
    {l m : List Nat} (v : Value) (hs : a.eval s = v) (hown : Own1 w base e 1 IsByte v l) (A : Option Addr) (n c : Nat) (hx : a.eval x = .slice A n c) (hsrc : SlR w B 1 IsByte (.slice A n c) m)
    (hfit : l.length + n ≤ 140737488355328) (hbase : base ≤ w.heap.size)
    (h : ∀ (a' : Option Addr) (n' c' : Nat) w', Own1 w' base e 1 IsByte (.slice a' n' c') (l ++ m) → Below base w w' → wpList P ops Q rest (a.put o.dst (.slice a' n' c')) w') : wpList P ops Q (o :: rest) a w :=
  wpList_append_list hgd s x t ho base B e i _ 1 1 ht hi hz hsize hby rfl (by omega) v hs hown A n c hx hsrc _ rfl IsByte.one (by unfold maxLen; omega) (by omega) hbase (fun a' c' w' h1 h2 => h a' _ c' w' h1 (below_of_grown hown hbase h2))
theorem step_append_bytes {ops : Array Oper} {o : Oper} {a : Act} {K : Act → World → Prop} {Q : Exit → Act → World → Prop} {E : Prop} {w : World} (hgd : o.guard = none) (s x : Operand) (t : TypeId)
    (ho : o.op = .call { callee := .builtin .append, args := #[s, x], argTypes := #[t, t] })
    (base B : Nat) (e : TypeId) (i : TypeInfo) (ht : P.underlying t = some (.slice e)) (hi : P.info? e = some i) (hz : i.zero = some (.int .u8 0)) (hsize : i.size = 1) (hby : i.bytes = 1)
    {l m : List Nat} (v : Value) (hs : a.eval s = v) (hown : Own1 w base e 1 IsByte v l) (A : Option Addr) (n c : Nat) (hx : a.eval x = .slice A n c) (hsrc : SlR w B 1 IsByte (.slice A n c) m)
    (hfit : l.length + n ≤ 140737488355328) (hbase : base ≤ w.heap.size)
    (h : ∀ (a' : Option Addr) (n' c' : Nat) w', Own1 w' base e 1 IsByte (.slice a' n' c') (l ++ m) → Below base w w' → K (a.put o.dst (.slice a' n' c')) w') : if Region.wanted o (yielded ops a.tmps) = true then Oper.wp P o a w K Q else E :=
  step_append_list hgd s x t ho base B e i _ 1 1 ht hi hz hsize hby rfl (by omega) v hs hown A n c hx hsrc _ rfl IsByte.one (by unfold maxLen; omega) (by omega) hbase (fun a' c' w' h1 h2 => h a' _ c' w' h1 (below_of_grown hown hbase h2))
/-- the row of a literal of bytes -/
theorem own_bytes {w : World} {base g : Nat} {e : TypeId} {l : List Nat} {xs : List Value} (hg : g = w.heap.size) (hb : base ≤ w.heap.size) (hx : xs = l.map (fun (n : Nat) => Value.int .u8 (n : Int))) (hl : Bytes l) (hm : l.length ≤ maxLen) (n c : Nat) (hn : n = l.length) (hc : c = l.length) :
    Own1 (w.alloc (.cells xs.toArray e)) base e 1 IsByte (.slice (some ⟨g, 0, none⟩) n c) l := by
  subst hg hx hn hc
  refine ⟨l.map (fun (n : Nat) => Value.int .u8 (n : Int)), ⟨by simp, .inr ⟨w.heap.size, l.length, (l.map (fun (n : Nat) => Value.int .u8 (n : Int))).toArray, rfl, hb, heap_alloc_new w _, Nat.le_refl _, hm, by simp, by simp [List.take_of_length_le]⟩⟩, byteRow_mk hl⟩
theorem bytes_row {w : World} {g : Nat} {e : TypeId} {l : List Nat} {xs : List Value} (hg : g = w.heap.size) (hx : xs = l.map (fun (n : Nat) => Value.int .u8 (n : Int))) (hl : Bytes l) (hm : l.length ≤ maxLen) (n c : Nat) (hn : n = l.length) (hc : c = l.length) :
    SlR (w.alloc (.cells xs.toArray e)) (w.heap.size + 1) 1 IsByte (.slice (some ⟨g, 0, none⟩) n c) l := by
  have := (own_bytes (base := 0) hg (Nat.zero_le _) hx hl hm n c hn hc (e := e)).read (by omega)
  rw [World.size_alloc] at this
  exact this
end
end Go.Proofs.YtdkoafmgenbkbaaDoor
namespace Go.Proofs.YtdkoafmgenbkbaaDoor
set_option linter.unusedSimpArgs false
set_option linter.unusedVariables false

/-- the decimal digits of a number -/
def dec (u : Nat) : List Nat := if h : u < 10 then [48 + u] else dec (u / 10) ++ [48 + u % 10]
termination_by u
decreasing_by omega
/-- what digits spell, behind 'a' -/
def val (a : Nat) (l : List Nat) : Nat := l.foldl (fun a c => 10 * a + (c - 48)) a
def Digits (l : List Nat) : Prop := ∀ c ∈ l, 48 ≤ c ∧ c ≤ 57
instance (l : List Nat) : Decidable (Digits l) := inferInstanceAs (Decidable (∀ c ∈ l, 48 ≤ c ∧ c ≤ 57))
/-- a number's one text -/
def showN (n : Int) : List Nat := if n < 0 then 45 :: dec n.natAbs else dec n.toNat
/-- a text's number -/
def intN (l : List Nat) : Option Int :=
  if l.head? = some 45 then
    if l.tail = [] ∨ 19 < l.tail.length ∨ l.tail.head? = some 48 then none else if Digits l.tail then (if 9223372036854775808 < val 0 l.tail then none else some (-(val 0 l.tail : Int))) else none
  else
    if l = [] ∨ 19 < l.length ∨ (l.head? = some 48 ∧ 1 < l.length) then none else if Digits l then (if 9223372036854775807 < val 0 l then none else some (val 0 l : Int)) else none

theorem dec_small {u : Nat} (h : u < 10) : dec u = [48 + u] := by rw [dec, dif_pos h]
theorem dec_big {u : Nat} (h : ¬ u < 10) : dec u = dec (u / 10) ++ [48 + u % 10] := by rw [dec, dif_neg h]
theorem val_app (a : Nat) (l m : List Nat) : val a (l ++ m) = val (val a l) m := by simp [val]
theorem val_dec (u : Nat) : val 0 (dec u) = u := by
  induction u using Nat.strongRecOn with
  | _ u ih =>
    by_cases h : u < 10
    · rw [dec_small h]; simp [val]
    · rw [dec_big h, val_app, ih (u / 10) (by omega)]; simp [val]; omega
theorem dec_digits (u : Nat) : Digits (dec u) := by
  induction u using Nat.strongRecOn with
  | _ u ih =>
    by_cases h : u < 10
    · rw [dec_small h]; intro c hc; simp at hc; omega
    · rw [dec_big h]; intro c hc
      rcases List.mem_append.1 hc with hc | hc
      · exact ih (u / 10) (by omega) c hc
      · simp at hc; omega
theorem dec_ne (u : Nat) : dec u ≠ [] := by
  by_cases h : u < 10
  · rw [dec_small h]; simp
  · rw [dec_big h]; simp
theorem dec_head (u : Nat) (h0 : u ≠ 0) : (dec u).head? ≠ some 48 := by
  induction u using Nat.strongRecOn with
  | _ u ih =>
    by_cases h : u < 10
    · rw [dec_small h]; simp; omega
    · rw [dec_big h]
      have h1 := ih (u / 10) (by omega) (by omega)
      have h2 := dec_ne (u / 10)
      cases hd : dec (u / 10) with
      | nil => exact absurd hd h2
      | cons a t => rw [hd] at h1; simpa using h1
theorem dec_len (u n : Nat) (h : u < 10 ^ n) (hn : 0 < n) : (dec u).length ≤ n := by
  induction n generalizing u with
  | zero => omega
  | succ n ih =>
    by_cases h1 : u < 10
    · rw [dec_small h1]; simp
    · rw [dec_big h1, List.length_append]
      have hn0 : 0 < n := by
        rcases Nat.eq_zero_or_pos n with rfl | hp
        · simp at h; omega
        · exact hp
      have := ih (u / 10) (by rw [Nat.pow_succ] at h; omega) hn0
      simp; omega
theorem val_pos {l : List Nat} (a : Nat) (ha : 0 < a) : 0 < val a l := by
  induction l generalizing a with
  | nil => exact ha
  | cons c l ih => exact ih (10 * a + (c - 48)) (by omega)
theorem dec_val : ∀ (n : Nat) (l : List Nat), l.length = n → l ≠ [] → Digits l → (l.head? ≠ some 48 ∨ l.length = 1) → dec (val 0 l) = l
  | 0, l, hn, hne, _, _ => absurd (List.eq_nil_of_length_eq_zero hn) hne
  | n + 1, l, hn, hne, hd, hh => by
    have hl := List.dropLast_concat_getLast hne
    generalize l.dropLast = m at hl
    generalize l.getLast hne = c at hl
    subst hl
    have hc := hd c (by simp)
    rw [val_app]
    cases hm : m with
    | nil => subst hm; rw [dec_small (by simp [val]; omega)]; simp [val]; omega
    | cons b t =>
      have hb := hd b (by simp [hm])
      have h48 : b ≠ 48 := by
        rcases hh with hh | hh
        · rw [hm] at hh; simpa using hh
        · rw [hm] at hh; simp at hh
      have ih := dec_val n m (by simpa using hn) (by rw [hm]; simp) (fun x hx => hd x (by simp [hx])) (Or.inl (by rw [hm]; simpa using h48))
      have hp : 0 < val 0 m := by rw [hm]; exact val_pos (l := t) (10 * 0 + (b - 48)) (by omega)
      rw [← hm]
      show dec (10 * val 0 m + (c - 48)) = m ++ [c]
      rw [dec_big (by omega)]
      have e1 : (10 * val 0 m + (c - 48)) / 10 = val 0 m := by omega
      have e2 : 48 + (10 * val 0 m + (c - 48)) % 10 = c := by omega
      rw [e1, e2, ih]

/-- a text has a number just if that number's text it is -/
theorem intN_some {l : List Nat} {v : Int} (h : intN l = some v) : -9223372036854775808 ≤ v ∧ v ≤ 9223372036854775807 ∧ showN v = l ∧ l.length ≤ 20 := by
  unfold intN at h
  split at h
  · rename_i hb
    split at h
    · cases h
    · rename_i hc
      split at h
      · rename_i hd
        split at h
        · cases h
        · rename_i hv
          injection h with h
          subst h
          have h1 : l.tail ≠ [] := fun e => hc (Or.inl e)
          have h2 : ¬ 19 < l.tail.length := fun e => hc (Or.inr (Or.inl e))
          have h3 : l.tail.head? ≠ some 48 := fun e => hc (Or.inr (Or.inr e))
          have hdv := dec_val _ l.tail rfl h1 hd (Or.inl h3)
          have hl : l = 45 :: l.tail := by
            cases l with
            | nil => simp at hb
            | cons a t => simp at hb; simp [hb]
          have hp : 0 < val 0 l.tail := by
            rcases Nat.eq_zero_or_pos (val 0 l.tail) with h0 | h0
            · rw [h0] at hdv; rw [← hdv, dec_small (by omega)] at h3; simp at h3
            · exact h0
          refine ⟨by omega, by omega, ?_, ?_⟩
          · unfold showN
            rw [if_pos (by omega)]
            have : (-(val 0 l.tail : Int)).natAbs = val 0 l.tail := by omega
            rw [this, hdv, ← hl]
          · have e := congrArg List.length hl
            rw [List.length_cons] at e
            omega
      · cases h
  · rename_i hb
    split at h
    · cases h
    · rename_i hc
      split at h
      · rename_i hd
        split at h
        · cases h
        · rename_i hv
          injection h with h
          subst h
          have h1 : l ≠ [] := fun e => hc (Or.inl e)
          have h2 : ¬ 19 < l.length := fun e => hc (Or.inr (Or.inl e))
          have h3 : l.head? ≠ some 48 ∨ l.length = 1 := by
            by_cases e : l.head? = some 48
            · right
              have : ¬ 1 < l.length := fun e' => hc (Or.inr (Or.inr ⟨e, e'⟩))
              have : l.length ≠ 0 := fun e' => h1 (List.eq_nil_of_length_eq_zero e')
              omega
            · exact Or.inl e
          have hdv := dec_val _ l rfl h1 hd h3
          refine ⟨by omega, by omega, ?_, by omega⟩
          unfold showN
          rw [if_neg (by omega)]
          simp [hdv]
      · cases h
theorem intN_show {v : Int} (h1 : -9223372036854775808 ≤ v) (h2 : v ≤ 9223372036854775807) : intN (showN v) = some v := by
  unfold showN
  split
  · rename_i hneg
    obtain ⟨u, rfl⟩ : ∃ u : Nat, v = -(u : Int) := ⟨v.natAbs, by omega⟩
    have e : (-(u : Int)).natAbs = u := by omega
    rw [e]
    have hu : u ≠ 0 := by omega
    have hlen : (dec u).length ≤ 19 := dec_len u 19 (by omega) (by omega)
    unfold intN
    rw [if_pos (show (45 :: dec u).head? = some 45 from rfl)]
    have hc : ¬ ((45 :: dec u).tail = [] ∨ 19 < (45 :: dec u).tail.length ∨ (45 :: dec u).tail.head? = some 48) := by
      rw [List.tail_cons]
      intro hx
      rcases hx with hx | hx | hx
      · exact dec_ne u hx
      · omega
      · exact dec_head u hu hx
    rw [if_neg hc, if_pos (show Digits (45 :: dec u).tail from dec_digits u), if_neg (show ¬ 9223372036854775808 < val 0 (45 :: dec u).tail by rw [List.tail_cons, val_dec]; omega), List.tail_cons, val_dec]
  · rename_i hneg
    obtain ⟨u, rfl⟩ : ∃ u : Nat, v = (u : Int) := ⟨v.toNat, by omega⟩
    rw [Int.toNat_natCast]
    have hlen : (dec u).length ≤ 19 := dec_len u 19 (by omega) (by omega)
    have hne := dec_ne u
    have hdg := dec_digits u
    unfold intN
    have hh : (dec u).head? ≠ some 45 := by
      cases hd : dec u with
      | nil => simp
      | cons a t =>
        have := hdg a (by rw [hd]; simp)
        simp; omega
    rw [if_neg hh]
    have hc : ¬ (dec u = [] ∨ 19 < (dec u).length ∨ ((dec u).head? = some 48 ∧ 1 < (dec u).length)) := by
      intro hx
      rcases hx with hx | hx | ⟨hx, hy⟩
      · exact hne hx
      · omega
      · rcases Nat.eq_zero_or_pos u with h0 | h0
        · subst h0; rw [dec_small (by omega)] at hy; simp at hy
        · exact dec_head u (by omega) hx
    rw [if_neg hc, if_pos hdg, val_dec, if_neg (by omega)]

/-- the library's words for the same -/
theorem dec_lib (u : Nat) : (Lib.decDigits u).map UInt8.toNat = dec u := by
  induction u using Nat.strongRecOn with
  | _ u ih =>
    rw [Lib.decDigits, dec]
    by_cases h : u < 10
    · rw [dif_pos h, dif_pos h]
      simp; omega
    · rw [dif_neg h, dif_neg h, List.map_append, ih (u / 10) (by omega)]
      simp; omega
theorem show_lib (n : Int) : (Lib.itoa n).map UInt8.toNat = showN n := by
  unfold Lib.itoa showN
  split
  · rw [List.map_cons, dec_lib]; rfl
  · exact dec_lib _
theorem show_txt (n : Int) : (⟨(Lib.itoa n).toArray⟩ : ByteArray) = txt (showN n) := by
  apply bs_inj
  rw [bs_txt]
  · rw [← show_lib]; simp [bs]
  · intro c hc
    rw [← show_lib, List.mem_map] at hc
    obtain ⟨b, _, rfl⟩ := hc
    exact b.toNat_lt
theorem parse_digits : ∀ (l : List UInt8) (acc : Nat), Digits (l.map UInt8.toNat) → val acc (l.map UInt8.toNat) ≤ 2 ^ 64 - 1 → Lib.parseUintM (2 ^ 64 - 1) acc l = .ok (val acc (l.map UInt8.toNat))
  | [], acc, _, _ => rfl
  | c :: l, acc, hd, hv => by
    have hc := hd c.toNat (by simp)
    have hge : ∀ (m : List Nat) (a : Nat), a ≤ val a m := by
      intro m
      induction m with
      | nil => intro a; exact Nat.le_refl _
      | cons x m ih => intro a; exact Nat.le_trans (by omega) (ih (10 * a + (x - 48)))
    have hv' : val (10 * acc + (c.toNat - 48)) (l.map UInt8.toNat) ≤ 2 ^ 64 - 1 := hv
    have h1 := hge (l.map UInt8.toNat) (10 * acc + (c.toNat - 48))
    have e : acc * 10 + (c.toNat - 48) = 10 * acc + (c.toNat - 48) := by omega
    rw [Lib.parseUintM, if_pos hc, if_neg (by omega), if_neg (by omega), e]
    exact parse_digits l _ (fun x hx => hd x (by simp at hx ⊢; exact Or.inr hx)) hv'
theorem parse_dec (u : Nat) (h : u ≤ 2 ^ 64 - 1) : Lib.parseUintB 64 (Lib.decDigits u) = .ok u := by
  have hne : Lib.decDigits u ≠ [] := by
    intro e
    have := dec_lib u
    rw [e] at this
    exact dec_ne u this.symm
  unfold Lib.parseUintB
  rw [if_neg hne, parse_digits _ _ (by rw [dec_lib]; exact dec_digits u) (by rw [dec_lib, val_dec]; exact h), dec_lib, val_dec]
theorem parse_show {v : Int} (h1 : -9223372036854775808 ≤ v) (h2 : v ≤ 9223372036854775807) : Lib.parseIntB 64 (Lib.itoa v) = .ok v := by
  unfold Lib.itoa
  split
  · rename_i hneg
    obtain ⟨u, rfl⟩ : ∃ u : Nat, v = -(u : Int) := ⟨v.natAbs, by omega⟩
    have e : (-(u : Int)).natAbs = u := by omega
    rw [e]
    have hp := parse_dec u (by omega)
    have h45 : (45 : UInt8).toNat = 45 := rfl
    simp only [Lib.parseIntB, h45]
    rw [if_pos (Or.inr trivial), hp]
    simp only
    rw [if_neg (by simp), if_neg (by simp; omega), if_pos trivial]
  · rename_i hneg
    obtain ⟨u, rfl⟩ : ∃ u : Nat, v = (u : Int) := ⟨v.toNat, by omega⟩
    rw [Int.toNat_natCast]
    have hp := parse_dec u (by omega)
    have hdl := dec_lib u
    have hdg := dec_digits u
    cases hd : Lib.decDigits u with
    | nil => rw [hd] at hdl; exact absurd hdl.symm (dec_ne u)
    | cons c t =>
      have hc : 48 ≤ c.toNat ∧ c.toNat ≤ 57 := hdg _ (by rw [← hdl, hd]; simp)
      rw [hd] at hp
      simp only [Lib.parseIntB]
      rw [if_neg (by omega), hp]
      simp only
      rw [if_neg (by simp; omega), if_neg (by omega), if_neg (by omega)]
/-- what the program asks of a text, against what the chapter says -/
theorem int_of_parse (s : ByteArray) (v : Int) (h : Lib.parseIntB 64 s.data.toList = .ok v) (h1 : -9223372036854775808 ≤ v) (h2 : v ≤ 9223372036854775807) (hs : (⟨(Lib.itoa v).toArray⟩ : ByteArray) = s) : intN (bs s) = some v := by
  rw [← hs, show_txt, bs_txt]
  · exact intN_show h1 h2
  · intro c hc
    rw [← show_lib, List.mem_map] at hc
    obtain ⟨b, _, rfl⟩ := hc
    exact b.toNat_lt
theorem parse_of_int (s : ByteArray) (v : Int) (h : intN (bs s) = some v) : Lib.parseIntB 64 s.data.toList = .ok v ∧ (⟨(Lib.itoa v).toArray⟩ : ByteArray) = s ∧ s.size ≤ 20 := by
  obtain ⟨h1, h2, h3, h4⟩ := intN_some h
  have hs : (⟨(Lib.itoa v).toArray⟩ : ByteArray) = s := by rw [show_txt, h3, txt_bs]
  refine ⟨?_, hs, by rw [← bs_len]; exact h4⟩
  rw [← hs]
  exact parse_show h1 h2
end Go.Proofs.YtdkoafmgenbkbaaDoor
