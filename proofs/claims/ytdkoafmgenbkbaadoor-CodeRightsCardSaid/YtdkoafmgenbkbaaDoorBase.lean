/- Plain words for slices of structs that are read, over whatever program: what a slice value holds as a list, how it is kept, how it is opened from an argument's reading. -/
import Derived.WalkKit
import Derived.Below
import Derived.Lib.Hide
import Derived.Deep.Slices
import Derived.Deep.Fields
import Derived.Deep.Draws
import Derived.ProofKit
namespace Go.Proofs.YtdkoafmgenbkbaaDoor
set_option linter.unusedSimpArgs false
set_option linter.unusedVariables false
open Go.RowKit Go.ChangeShapes Go.WideShapes Go.Deep

/-- A slice value that reads as a list: the element number i lies in 'size' cells that are as 'R' says of it. -/
def SlR {α : Type} (w : World) (B size : Nat) (R : List Value → α → Prop) (v : Value) (l : List α) : Prop :=
  ∃ (a : Option Addr) (c : Nat), v = .slice a l.length c ∧ l.length ≤ c ∧ c ≤ maxLen ∧
    (0 < l.length → ∃ b off, a = some ⟨b, off, none⟩ ∧ b < B ∧ ∀ (i : Nat) (y : α), l[i]? = some y → ∃ x : List Value, x.length = size ∧ R x y ∧ ∀ (j : Nat) (u : Value), x[j]? = some u → w.cell? ⟨b, off + i * size + j, none⟩ = some u)

section
variable {α : Type} {w w' : World} {B B' size : Nat} {R R' : List Value → α → Prop} {v : Value} {l : List α}

theorem SlR.nil_ (c : Nat) (hc : c ≤ maxLen) (a : Option Addr) : SlR w B size R (.slice a 0 c) ([] : List α) := ⟨a, c, rfl, Nat.zero_le _, hc, fun h => absurd h (by simp)⟩
theorem SlR.keep (h : SlR w B size R v l) (hk : ∀ p : Addr, p.block < B → w'.cell? p = w.cell? p) (hR : ∀ x y, R x y → R' x y) (hB : B ≤ B') : SlR w' B' size R' v l := by
  obtain ⟨a, c, rfl, h1, h2, h3⟩ := h
  refine ⟨a, c, rfl, h1, h2, fun hl => ?_⟩
  obtain ⟨b, off, ha, hb, hc⟩ := h3 hl
  refine ⟨b, off, ha, by omega, fun i y hy => ?_⟩
  obtain ⟨x, hx1, hx2, hx3⟩ := hc i y hy
  exact ⟨x, hx1, hR _ _ hx2, fun j u hu => (hk ⟨b, _, none⟩ hb).trans (hx3 j u hu)⟩
theorem SlR.below (h : SlR w B size R v l) (hb : Below B w w') : SlR w' B size R v l := h.keep (fun _ hp => hb.cell hp) (fun _ _ r => r) (Nat.le_refl _)
theorem SlR.more (h : SlR w B size R v l) (hB : B ≤ B') : SlR w B' size R v l := h.keep (fun _ _ => rfl) (fun _ _ r => r) hB
theorem SlR.imp (h : SlR w B size R v l) (hR : ∀ x y, R x y → R' x y) : SlR w B size R' v l := h.keep (fun _ _ => rfl) hR (Nat.le_refl _)
theorem SlR.form (h : SlR w B size R v l) : ∃ (a : Option Addr) (c : Nat), v = .slice a l.length c ∧ l.length ≤ c ∧ c ≤ maxLen := by
  obtain ⟨a, c, h0, h1, h2, _⟩ := h
  exact ⟨a, c, h0, h1, h2⟩
/-- the element k -/
theorem SlR.at_ {k : Nat} {y : α} {a : Option Addr} {n c : Nat} (h : SlR w B size R (.slice a n c) l) (hy : l[k]? = some y) :
    ∃ b off x, a = some ⟨b, off, none⟩ ∧ b < B ∧ x.length = size ∧ R x y ∧ ∀ (j : Nat) (u : Value), x[j]? = some u → w.cell? ⟨b, off + k * size + j, none⟩ = some u := by
  obtain ⟨a', c', hv, h1, h2, h3⟩ := h
  have hl : k < l.length := (List.getElem?_eq_some_iff.1 hy).1
  obtain ⟨b, off, ha, hb, hc⟩ := h3 (by omega)
  obtain ⟨x, hx⟩ := hc k y hy
  injection hv with e1 e2 e3
  exact ⟨b, off, x, e1.trans ha, hb, hx.1, hx.2.1, hx.2.2⟩
theorem SlR.len {a : Option Addr} {n c : Nat} (h : SlR w B size R (.slice a n c) l) : n = l.length := by
  obtain ⟨_, _, hv, _⟩ := h
  injection hv
theorem SlR.caps {a : Option Addr} {n c : Nat} (h : SlR w B size R (.slice a n c) l) : n ≤ c ∧ c ≤ maxLen := by
  obtain ⟨_, _, hv, h1, h2, _⟩ := h
  injection hv with _ e2 e3
  subst e2 e3
  exact ⟨h1, h2⟩
end

theorem list_of_forall {α : Type} {P : Nat → α → Prop} : ∀ n : Nat, (∀ i, i < n → ∃ d, P i d) → ∃ l : List α, l.length = n ∧ ∀ i d, l[i]? = some d → P i d
  | 0, _ => ⟨[], rfl, fun i d h => by simp at h⟩
  | n + 1, h => by
    obtain ⟨l, hl, hp⟩ := list_of_forall n (fun i hi => h i (by omega))
    obtain ⟨d, hd⟩ := h n (by omega)
    refine ⟨l ++ [d], by simp [hl], fun i e he => ?_⟩
    rcases Nat.lt_trichotomy i n with hi | hi | hi
    · rw [List.getElem?_append_left (by omega)] at he
      exact hp i e he
    · subst hi
      rw [List.getElem?_append_right (by omega), hl] at he
      simp at he
      subst he
      exact hd
    · rw [List.getElem?_eq_none (by simp; omega)] at he
      cases he

section
variable {H : Type} {enc : TypeId × Value → H} {P : Program} {w : World} {base : Nat} {spare : Nat → Bool} {held : Bool}

theorem cell_lt {w : World} {p : Addr} {u : Value} (h : w.cell? p = some u) : p.block < w.heap.size := by
  rcases Nat.lt_or_ge p.block w.heap.size with hlt | hge
  · exact hlt
  · rw [World.cell?, Array.getElem?_eq_none hge] at h
    cases h

/-- AN ARGUMENT'S SLICE, opened: whatever each element's cells read as. -/
theorem open_SlR {α : Type} {t e : TypeId} {fuel size : Nat} {v : Value} {d : DataW H × List MemPlace} (R : List Value → α → Prop) (ht : P.underlying t = some (.slice e)) (hC : P.cellsOf e = size) (hs : 0 < size)
    (h : DataW.trod enc P w base spare held fuel t [v] = some d)
    (hR : ∀ (n : Nat) (x : List Value) (y : DataW H × List MemPlace), x.length = size → DataW.trod enc P w base spare held n e x = some y → ∃ z : α, R x z) :
    ∃ l : List α, SlR w w.heap.size size R v l := by
  rcases open_slice ht h with ⟨h0, _⟩ | ⟨a, len, cap, m, n, D, Pl, hcs, hb, hl, hm, hmm, hx, hi⟩
  · simp at h0
    subst h0
    exact ⟨[], SlR.nil_ _ (by unfold maxLen; omega) _⟩
  · simp at hcs
    subst hcs
    rw [hC] at hi
    have hlm : len ≤ m := by rw [hmm]; split <;> omega
    have key : ∀ i, i < len → ∃ z : α, ∃ x : List Value, x.length = size ∧ R x z ∧ ∀ (j : Nat) (u : Value), x[j]? = some u → w.cell? (a.add (i * size + j)) = some u := by
      intro i hil
      obtain ⟨cs', h1, h2⟩ := hi i (by omega)
      obtain ⟨_, hlen, hat⟩ := World.cells?_some h1
      obtain ⟨z, hz⟩ := hR n cs' _ hlen h2
      refine ⟨z, cs', hlen, hz, fun j u hu => ?_⟩
      have hj : j < size := by rw [← hlen]; exact (List.getElem?_eq_some_iff.1 hu).1
      have := hat j hj
      rw [hu] at this
      rw [← Go.Deep.add_add]
      exact this
    obtain ⟨l, hlen, hp⟩ := list_of_forall len key
    refine ⟨l, some a, cap, by rw [hlen], by omega, hm, fun hl0 => ?_⟩
    obtain ⟨b, off, spot⟩ := a
    obtain ⟨x, hx1, _, hx3⟩ := hp 0 l[0] (List.getElem?_eq_getElem hl0)
    have hc0 := hx3 0 x[0] (List.getElem?_eq_getElem (by omega))
    have hspot : spot = none := by simpa [Addr.add] using World.cell?_spot hc0
    subst hspot
    refine ⟨b, off, rfl, by simpa [Addr.add] using cell_lt hc0, fun i y hy => ?_⟩
    obtain ⟨x, hx1, hx2, hx3⟩ := hp i y hy
    refine ⟨x, hx1, hx2, fun j u hu => ?_⟩
    have := hx3 j u hu
    have e : (Addr.add ⟨b, off, none⟩ (i * size + j)) = ⟨b, off + i * size + j, none⟩ := by
      unfold Addr.add
      split
      · rename_i h0
        rw [Nat.add_assoc, h0, Nat.add_zero]
      · rw [Nat.add_assoc]
    rwa [e] at this

/-- A STRUCT'S CELLS, opened: each field's reading (fields of one cell each). -/
theorem open_fields {e : TypeId} {fs : Array Field} {fuel : Nat} {x : List Value} {d : DataW H × List MemPlace} (he : P.underlying e = some (.struct fs)) (hone : oneCellFields P fs = true) (hC : P.cellsOf e = fs.size)
    (h : DataW.trod enc P w base spare held fuel e x = some d) :
    x.length = fs.size ∧ ∃ n, ∀ (j : Nat) (f : Field), fs[j]? = some f → ∃ (u : Value) (y : DataW H × List MemPlace), x[j]? = some u ∧ DataW.trod enc P w base spare held n f.type [u] = some y := by
  obtain ⟨ys, n, hn, hy, hlen, hyl, hf⟩ := DataW.trod_struct he h
  rw [hC] at hlen
  refine ⟨hlen, n, fun j f hj => ?_⟩
  obtain ⟨ho, hk⟩ := hone_of hone j f hj
  have hjl : j < fs.size := (Array.getElem?_eq_some_iff.1 hj).1
  have h1 := hf j f hj
  rw [ho, hk] at h1
  have hone' : (x.drop j).take 1 = [x[j]'(by omega)] := by
    rw [List.drop_eq_getElem_cons (by omega)]
    rfl
  rw [hone', List.getElem?_eq_getElem (show j < ys.length by omega)] at h1
  exact ⟨_, _, List.getElem?_eq_getElem (by omega), h1⟩
end

/-- the number of the first that is, or -1 -/
def firstAt {α : Type} (p : α → Bool) (l : List α) : Int := match l.findIdx? p with | some i => (i : Int) | none => -1
theorem firstAt_here {α : Type} {p : α → Bool} {l : List α} {k : Nat} {d : α} (hd : l[k]? = some d) (hp : p d = true) (hf : ∀ i d, i < k → l[i]? = some d → p d = false) : firstAt p l = k := by
  have hk : k < l.length := (List.getElem?_eq_some_iff.1 hd).1
  have : l.findIdx? p = some k := by
    rw [List.findIdx?_eq_some_iff_getElem]
    refine ⟨hk, ?_, fun j hj => ?_⟩
    · have := (List.getElem?_eq_some_iff.1 hd).2; rw [this]; exact hp
    · simp [hf j _ hj (List.getElem?_eq_getElem (by omega))]
  simp [firstAt, this]
theorem firstAt_none {α : Type} {p : α → Bool} {l : List α} (hf : ∀ i d, i < l.length → l[i]? = some d → p d = false) : firstAt p l = -1 := by
  have : l.findIdx? p = none := by
    rw [List.findIdx?_eq_none_iff]
    intro x hx
    obtain ⟨i, hi⟩ := List.mem_iff_getElem?.1 hx
    exact hf i x (List.getElem?_eq_some_iff.1 hi).1 hi
  simp [firstAt, this]
theorem firstAt_any {α : Type} (p : α → Bool) (l : List α) : decide (0 ≤ firstAt p l) = l.any p := by
  unfold firstAt
  cases h : l.findIdx? p with
  | none =>
    rw [List.findIdx?_eq_none_iff] at h
    simp
    intro x hx
    exact h x hx
  | some i =>
    obtain ⟨hi, hp, _⟩ := List.findIdx?_eq_some_iff_getElem.1 h
    simp
    exact ⟨_, List.getElem_mem hi, hp⟩

theorem toList_inj (a b : ByteArray) : a.toList = b.toList ↔ a = b := by
  rw [ByteArray.toList_eq, ByteArray.toList_eq]
  constructor
  · intro h
    obtain ⟨⟨x⟩⟩ := a
    obtain ⟨⟨y⟩⟩ := b
    simp at h
    simp [h]
  · intro h; rw [h]

/-- two lists, element by element -/
def eqBy {α β : Type} (p : α → β → Bool) : List α → List β → Bool
  | [], [] => true
  | a :: l, b :: m => p a b && eqBy p l m
  | _, _ => false
theorem eqBy_len {α β : Type} (p : α → β → Bool) : ∀ (l : List α) (m : List β), l.length ≠ m.length → eqBy p l m = false
  | [], [], h => absurd rfl h
  | a :: l, b :: m, h => by
    have : l.length ≠ m.length := fun e => h (by simp [e])
    simp [eqBy, eqBy_len p l m this]
  | [], _ :: _, _ => rfl
  | _ :: _, [], _ => rfl
theorem eqBy_no {α β : Type} (p : α → β → Bool) : ∀ (l : List α) (m : List β) (k : Nat) (y : α) (z : β), l[k]? = some y → m[k]? = some z → p y z = false → eqBy p l m = false
  | [], _, k, y, z, h, _, _ => by simp at h
  | _ :: _, [], k, y, z, _, h, _ => by simp at h
  | a :: l, b :: m, 0, y, z, h, h', hp => by
    simp at h h'
    subst h h'
    simp [eqBy, hp]
  | a :: l, b :: m, k + 1, y, z, h, h', hp => by
    simp at h h'
    simp [eqBy, eqBy_no p l m k y z h h' hp]
theorem eqBy_yes {α β : Type} (p : α → β → Bool) : ∀ (l : List α) (m : List β), l.length = m.length → (∀ i y z, i < l.length → l[i]? = some y → m[i]? = some z → p y z = true) → eqBy p l m = true
  | [], [], _, _ => rfl
  | a :: l, b :: m, h, hp => by
    have h0 := hp 0 a b (by simp) rfl rfl
    have h1 := eqBy_yes p l m (by simpa using h) (fun i y z hi hy hz => hp (i + 1) y z (by simpa using hi) (by simpa using hy) (by simpa using hz))
    simp [eqBy, h0, h1]
  | [], _ :: _, h, _ => by simp at h
  | _ :: _, [], h, _ => by simp at h
theorem eqBy_eq {α : Type} [DecidableEq α] : ∀ (l m : List α), eqBy (fun a b => decide (a = b)) l m = decide (l = m)
  | [], [] => by simp [eqBy]
  | a :: l, b :: m => by
    simp only [eqBy, eqBy_eq l m, List.cons.injEq]
    by_cases h : a = b <;> by_cases h' : l = m <;> simp [h, h']
  | [], _ :: _ => by simp [eqBy]
  | _ :: _, [] => by simp [eqBy]
/-- what has been found alike so far, one more -/
theorem so_far {α β : Type} {p : α → β → Bool} {l : List α} {m : List β} {k : Nat} {y : α} {z : β} (hy : l[k]? = some y) (hz : m[k]? = some z) (hp : p y z = true)
    (h : ∀ i y z, i < k → l[i]? = some y → m[i]? = some z → p y z = true) : ∀ i y z, i < k + 1 → l[i]? = some y → m[i]? = some z → p y z = true := by
  intro i y' z' hi h1 h2
  by_cases e : i = k
  · subst e
    rw [hy] at h1; rw [hz] at h2
    injection h1 with h1; injection h2 with h2
    subst h1 h2
    exact hp
  · exact h i y' z' (by omega) h1 h2
theorem so_far1 {α : Type} {p : α → Bool} {b : Bool} {l : List α} {k : Nat} {y : α} (hy : l[k]? = some y) (hp : p y = b)
    (h : ∀ i y, i < k → l[i]? = some y → p y = b) : ∀ i y, i < k + 1 → l[i]? = some y → p y = b := by
  intro i y' hi h1
  by_cases e : i = k
  · subst e
    rw [hy] at h1
    injection h1 with h1
    subst h1
    exact hp
  · exact h i y' (by omega) h1
theorem get_some {α : Type} {l : List α} {k n : Nat} (hl : l.length = n) (h : k < n) : ∃ d, l[k]? = some d := ⟨_, List.getElem?_eq_getElem (by rw [hl]; exact h)⟩
theorem below_drewN {B : Nat} {a w : World} (h : Below B a w) (n : Nat) : Below B a (w.drewN n) := ⟨h.os, h.tape, h.output, h.size, h.block⟩

/-- only draws have been made -/
def Quiet (w w' : World) : Prop := ∃ n, w' = w.drewN n
theorem Quiet.refl (w : World) : Quiet w w := ⟨0, rfl⟩
theorem Quiet.drewN {a w : World} (h : Quiet a w) (n : Nat) : Quiet a (w.drewN n) := by
  obtain ⟨k, rfl⟩ := h
  exact ⟨k + n, by rw [World.drewN_drewN]⟩
theorem Quiet.trans {a b c : World} (h : Quiet a b) (k : Quiet b c) : Quiet a c := by
  obtain ⟨n, rfl⟩ := k
  exact h.drewN n
theorem Quiet.below {a w : World} (h : Quiet a w) (B : Nat) : Below B a w := by
  obtain ⟨n, rfl⟩ := h
  exact below_drewN (Below.refl _ _) n
/-- what a call that leaves the old cells alone leaves to read: two rules for the walk -/
theorem bcell {W w1 : World} {B : Nat} (hb : Below B W w1) : (∀ b o, b < B → w1.cell? ⟨b, o, none⟩ = W.cell? ⟨b, o, none⟩) ∧ (∀ b o, b < B → w1.frozen? ⟨b, o, none⟩ = W.frozen? ⟨b, o, none⟩) :=
  ⟨fun b o h => hb.cell (p := ⟨b, o, none⟩) h, fun b o h => hb.frozen (p := ⟨b, o, none⟩) h⟩
theorem SlR.form' {α : Type} {w : World} {B size : Nat} {R : List Value → α → Prop} {v : Value} {l : List α} (h : SlR w B size R v l) : ∃ (a : Option Addr) (n c : Nat), v = .slice a n c := by
  obtain ⟨a, c, h0, _⟩ := h
  exact ⟨a, _, c, h0⟩
theorem quiet_more {a b : World} {q : Nat} (h : Quiet a (b.drewN q)) (n : Nat) : Quiet a (b.drewN (q + n)) := by
  rw [← World.drewN_drewN]
  exact h.drewN n
/-- a quiet callee's contract in the form that a region that draws its order asks -/
theorem quiet_call {P : Program} {f : FuncId} {args : Array Value} {w : World} {n : Nat} {b c : Bool} (h : Calls P f args (w.drewN n) fun e w' => e = .returned (.bool b) ∧ Quiet (w.drewN n) w') (hb : b = c) :
    Calls P f args (w.drewN n) fun e w'' => e = .returned (.bool c) ∧ ∃ m, w'' = w.drewN m := by
  subst hb
  exact h.mono fun _ _ ⟨he, m, hm⟩ => ⟨he, n + m, by rw [hm, World.drewN_drewN]⟩
theorem below2 {B : Nat} {w : World} {o : Obj} (h : B ≤ w.heap.size) : B ≤ (w.alloc o).heap.size := by simp; omega
theorem below3 {B : Nat} {w : World} {o o' : Obj} (h : B ≤ w.heap.size) : B ≤ ((w.alloc o).alloc o').heap.size := by simp; omega
theorem len1 {x : List Value} (h : x.length = 1) : ∃ u0, x = [u0] := by
  match x, h with
  | [u0], _ => exact ⟨_, rfl⟩
theorem len2 {x : List Value} (h : x.length = 2) : ∃ u0 u1, x = [u0, u1] := by
  match x, h with
  | [u0, u1], _ => exact ⟨_, _, rfl⟩
theorem len3 {x : List Value} (h : x.length = 3) : ∃ u0 u1 u2, x = [u0, u1, u2] := by
  match x, h with
  | [u0, u1, u2], _ => exact ⟨_, _, _, rfl⟩
theorem len4 {x : List Value} (h : x.length = 4) : ∃ u0 u1 u2 u3, x = [u0, u1, u2, u3] := by
  match x, h with
  | [u0, u1, u2, u3], _ => exact ⟨_, _, _, _, rfl⟩
theorem len6 {x : List Value} (h : x.length = 6) : ∃ u0 u1 u2 u3 u4 u5, x = [u0, u1, u2, u3, u4, u5] := by
  match x, h with
  | [u0, u1, u2, u3, u4, u5], _ => exact ⟨_, _, _, _, _, _, rfl⟩
theorem len8 {x : List Value} (h : x.length = 8) : ∃ u0 u1 u2 u3 u4 u5 u6 u7, x = [u0, u1, u2, u3, u4, u5, u6, u7] := by
  match x, h with
  | [u0, u1, u2, u3, u4, u5, u6, u7], _ => exact ⟨_, _, _, _, _, _, _, _, rfl⟩
end Go.Proofs.YtdkoafmgenbkbaaDoor
