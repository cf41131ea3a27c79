/- Taken over out of another chapter (its text Base): what is needed here. Taken over out of another chapter (its text Own): what is needed here. Taken over out of another chapter (its text Str): what is needed here. Taken over out of another chapter (its text Among): what is needed here. Taken over out of another chapter (its text Num): what is needed here. Taken over out of another chapter (its text Show): what is needed here. Taken over out of another chapter (its text Live): what is needed here. Taken over out of another chapter (its text Build): what is needed here. Taken over out of another chapter (its text Char): what is needed here. Taken over out of another chapter (its text CodePlain): what is needed here. Taken over out of another chapter (its text CpM): what is needed here. Taken over out of another chapter (its text Name): what is needed here. Taken over out of another chapter (its text Plain): what is needed here. Taken over out of another chapter (its text Esc): what is needed here. Taken over out of another chapter (its text Quote): what is needed here. Taken over out of another chapter (its text Unq): what is needed here. Taken over out of another chapter (its text RdB): what is needed here. Taken over out of another chapter (its text ELexPlain): what is needed here. Taken over out of another chapter (its text ELexNum): what is needed here. Taken over out of another chapter (its text EScanPlain): what is needed here. Taken over out of another chapter (its text EOne): what is needed here. -/
import Derived.Test.YtidkbodmiegbkaaGreatDoorProg
import Derived.Test.YtidkbodmiegbkaaGreatDoorShelf
import Derived.Below
import Derived.Deep.Draws
import Derived.Deep.Fields
import Derived.Deep.Slices
import Derived.Lib.Hide
import Derived.ProofKit
import Derived.WalkKit
import Derived.Deep.AppendLies
import Derived.Maps.AppendAt
import Derived.OwnWalk
import Derived.Laws.BytesString
import Derived.Laws.IdiomStrings
import Derived.Lib.AppendStr
import Derived.BigQuiet
import Derived.Deep.QuietTactic
import Derived.Lib.ItoaNum
import Derived.Lib.ParseIntB
import Derived.Outline
import Derived.WalkMore
import Derived.WalkSpells
import Derived.Orders
import Derived.Lib.Builder
import Derived.Lib.FrozenHead
import Derived.BigRegion
import Derived.Deep.LoopGhost
import Derived.Deep.RegionHeld2
import Derived.Deep.RegionHeld3
import Derived.Deep.RegionLaw
import Derived.Defers
import Derived.IntWalk
import Derived.Laws.EntriesVeiled
import Derived.Laws.Pointers
import Derived.Laws.Rows
import Derived.Recover
import Derived.RegionTactic
import Derived.StillTailTactics
import Derived.Tactics
import Derived.Tactics2
import Derived.WalkSmall
import Derived.Deep.CutRange
import Derived.Laws.Cover1
import Derived.Laws.MakeOwn
import Derived.Lib.CutLaws
import Derived.Lib.SliceRun
import Derived.Lib.SlicesS
namespace Go.Proofs.YtidkbodmiegbkaaGreatDoor
set_option linter.unusedSimpArgs false
set_option linter.unusedVariables false
open Go.RowKit Go.ChangeShapes Go.WideShapes Go.Deep
/-- A slice value that reads as a list: the element number i lies in 'size' cells that are as 'R' says of it. -/
def SlR {α : Type} (w : World) (B size : Nat) (R : List Value → α → Prop) (v : Value) (l : List α) : Prop :=
  ∃ (a : Option Addr) (c : Nat), v = .slice a l.length c ∧ l.length ≤ c ∧ c ≤ maxLen ∧
    (0 < l.length → ∃ b off, a = some ⟨b, off, none⟩ ∧ b < B ∧ ∀ (i : Nat) (y : α), l[i]? = some y → ∃ x : List Value, x.length = size ∧ R x y ∧ ∀ (j : Nat) (u : Value), x[j]? = some u → w.cell? ⟨b, off + i * size + j, none⟩ = some u)
section
variable {α : Type} {w w' : World} {B B' size : Nat} {R R' : List Value → α → Prop} {v : Value} {l : List α}
theorem SlR.nil_ (c : Nat) (hc : c ≤ maxLen) (a : Option Addr) : SlR w B size R (.slice a 0 c) ([] : List α) := ⟨a, c, rfl, Nat.zero_le _, hc, fun h => absurd h (by simp)⟩
theorem SlR.keep (h : SlR w B size R v l) (hk : ∀ p : Addr, p.block < B → w'.cell? p = w.cell? p) (hR : ∀ x y, R x y → R' x y) (hB : B ≤ B') : SlR w' B' size R' v l := by
  obtain ⟨a, c, rfl, h1, h2, h3⟩ := h
  refine ⟨a, c, rfl, h1, h2, fun hl => ?_⟩
  obtain ⟨b, off, ha, hb, hc⟩ := h3 hl
  refine ⟨b, off, ha, by omega, fun i y hy => ?_⟩
  obtain ⟨x, hx1, hx2, hx3⟩ := hc i y hy
  exact ⟨x, hx1, hR _ _ hx2, fun j u hu => (hk ⟨b, _, none⟩ hb).trans (hx3 j u hu)⟩
theorem SlR.below (h : SlR w B size R v l) (hb : Below B w w') : SlR w' B size R v l := h.keep (fun _ hp => hb.cell hp) (fun _ _ r => r) (Nat.le_refl _)
theorem SlR.more (h : SlR w B size R v l) (hB : B ≤ B') : SlR w B' size R v l := h.keep (fun _ _ => rfl) (fun _ _ r => r) hB
theorem SlR.imp (h : SlR w B size R v l) (hR : ∀ x y, R x y → R' x y) : SlR w B size R' v l := h.keep (fun _ _ => rfl) hR (Nat.le_refl _)
theorem SlR.form (h : SlR w B size R v l) : ∃ (a : Option Addr) (c : Nat), v = .slice a l.length c ∧ l.length ≤ c ∧ c ≤ maxLen := by
  obtain ⟨a, c, h0, h1, h2, _⟩ := h
  exact ⟨a, c, h0, h1, h2⟩
/-- the element k -/
theorem SlR.at_ {k : Nat} {y : α} {a : Option Addr} {n c : Nat} (h : SlR w B size R (.slice a n c) l) (hy : l[k]? = some y) :
    ∃ b off x, a = some ⟨b, off, none⟩ ∧ b < B ∧ x.length = size ∧ R x y ∧ ∀ (j : Nat) (u : Value), x[j]? = some u → w.cell? ⟨b, off + k * size + j, none⟩ = some u := by
  obtain ⟨a', c', hv, h1, h2, h3⟩ := h
  have hl : k < l.length := (List.getElem?_eq_some_iff.1 hy).1
  obtain ⟨b, off, ha, hb, hc⟩ := h3 (by omega)
  obtain ⟨x, hx⟩ := hc k y hy
  injection hv with e1 e2 e3
  exact ⟨b, off, x, e1.trans ha, hb, hx.1, hx.2.1, hx.2.2⟩
theorem SlR.len {a : Option Addr} {n c : Nat} (h : SlR w B size R (.slice a n c) l) : n = l.length := by
  obtain ⟨_, _, hv, _⟩ := h
  injection hv
theorem SlR.caps {a : Option Addr} {n c : Nat} (h : SlR w B size R (.slice a n c) l) : n ≤ c ∧ c ≤ maxLen := by
  obtain ⟨_, _, hv, h1, h2, _⟩ := h
  injection hv with _ e2 e3
  subst e2 e3
  exact ⟨h1, h2⟩
end
theorem list_of_forall {α : Type} {P : Nat → α → Prop} : ∀ n : Nat, (∀ i, i < n → ∃ d, P i d) → ∃ l : List α, l.length = n ∧ ∀ i d, l[i]? = some d → P i d
  | 0, _ => ⟨[], rfl, fun i d h => by simp at h⟩
  | n + 1, h => by
    obtain ⟨l, hl, hp⟩ := list_of_forall n (fun i hi => h i (by omega))
    obtain ⟨d, hd⟩ := h n (by omega)
    refine ⟨l ++ [d], by simp [hl], fun i e he => ?_⟩
    rcases Nat.lt_trichotomy i n with hi | hi | hi
    · rw [List.getElem?_append_left (by omega)] at he
      exact hp i e he
    · subst hi
      rw [List.getElem?_append_right (by omega), hl] at he
      simp at he
      subst he
      exact hd
    · rw [List.getElem?_eq_none (by simp; omega)] at he
      cases he
section
variable {H : Type} {enc : TypeId × Value → H} {P : Program} {w : World} {base : Nat} {spare : Nat → Bool} {held : Bool}
theorem cell_lt {w : World} {p : Addr} {u : Value} (h : w.cell? p = some u) : p.block < w.heap.size := by
  rcases Nat.lt_or_ge p.block w.heap.size with hlt | hge
  · exact hlt
  · rw [World.cell?, Array.getElem?_eq_none hge] at h
    cases h
/-- AN ARGUMENT'S SLICE, opened: whatever each element's cells read as. -/
theorem open_SlR {α : Type} {t e : TypeId} {fuel size : Nat} {v : Value} {d : DataW H × List MemPlace} (R : List Value → α → Prop) (ht : P.underlying t = some (.slice e)) (hC : P.cellsOf e = size) (hs : 0 < size)
    (h : DataW.trod enc P w base spare held fuel t [v] = some d)
    (hR : ∀ (n : Nat) (x : List Value) (y : DataW H × List MemPlace), x.length = size → DataW.trod enc P w base spare held n e x = some y → ∃ z : α, R x z) :
    ∃ l : List α, SlR w w.heap.size size R v l := by
  rcases open_slice ht h with ⟨h0, _⟩ | ⟨a, len, cap, m, n, D, Pl, hcs, hb, hl, hm, hmm, hx, hi⟩
  · simp at h0
    subst h0
    exact ⟨[], SlR.nil_ _ (by unfold maxLen; omega) _⟩
  · simp at hcs
    subst hcs
    rw [hC] at hi
    have hlm : len ≤ m := by rw [hmm]; split <;> omega
    have key : ∀ i, i < len → ∃ z : α, ∃ x : List Value, x.length = size ∧ R x z ∧ ∀ (j : Nat) (u : Value), x[j]? = some u → w.cell? (a.add (i * size + j)) = some u := by
      intro i hil
      obtain ⟨cs', h1, h2⟩ := hi i (by omega)
      obtain ⟨_, hlen, hat⟩ := World.cells?_some h1
      obtain ⟨z, hz⟩ := hR n cs' _ hlen h2
      refine ⟨z, cs', hlen, hz, fun j u hu => ?_⟩
      have hj : j < size := by rw [← hlen]; exact (List.getElem?_eq_some_iff.1 hu).1
      have := hat j hj
      rw [hu] at this
      rw [← Go.Deep.add_add]
      exact this
    obtain ⟨l, hlen, hp⟩ := list_of_forall len key
    refine ⟨l, some a, cap, by rw [hlen], by omega, hm, fun hl0 => ?_⟩
    obtain ⟨b, off, spot⟩ := a
    obtain ⟨x, hx1, _, hx3⟩ := hp 0 l[0] (List.getElem?_eq_getElem hl0)
    have hc0 := hx3 0 x[0] (List.getElem?_eq_getElem (by omega))
    have hspot : spot = none := by simpa [Addr.add] using World.cell?_spot hc0
    subst hspot
    refine ⟨b, off, rfl, by simpa [Addr.add] using cell_lt hc0, fun i y hy => ?_⟩
    obtain ⟨x, hx1, hx2, hx3⟩ := hp i y hy
    refine ⟨x, hx1, hx2, fun j u hu => ?_⟩
    have := hx3 j u hu
    have e : (Addr.add ⟨b, off, none⟩ (i * size + j)) = ⟨b, off + i * size + j, none⟩ := by
      unfold Addr.add
      split
      · rename_i h0
        rw [Nat.add_assoc, h0, Nat.add_zero]
      · rw [Nat.add_assoc]
    rwa [e] at this
/-- A STRUCT'S CELLS, opened: each field's reading (fields of one cell each). -/
theorem open_fields {e : TypeId} {fs : Array Field} {fuel : Nat} {x : List Value} {d : DataW H × List MemPlace} (he : P.underlying e = some (.struct fs)) (hone : oneCellFields P fs = true) (hC : P.cellsOf e = fs.size)
    (h : DataW.trod enc P w base spare held fuel e x = some d) :
    x.length = fs.size ∧ ∃ n, ∀ (j : Nat) (f : Field), fs[j]? = some f → ∃ (u : Value) (y : DataW H × List MemPlace), x[j]? = some u ∧ DataW.trod enc P w base spare held n f.type [u] = some y := by
  obtain ⟨ys, n, hn, hy, hlen, hyl, hf⟩ := DataW.trod_struct he h
  rw [hC] at hlen
  refine ⟨hlen, n, fun j f hj => ?_⟩
  obtain ⟨ho, hk⟩ := hone_of hone j f hj
  have hjl : j < fs.size := (Array.getElem?_eq_some_iff.1 hj).1
  have h1 := hf j f hj
  rw [ho, hk] at h1
  have hone' : (x.drop j).take 1 = [x[j]'(by omega)] := by
    rw [List.drop_eq_getElem_cons (by omega)]
    rfl
  rw [hone', List.getElem?_eq_getElem (show j < ys.length by omega)] at h1
  exact ⟨_, _, List.getElem?_eq_getElem (by omega), h1⟩
end
/-- the number of the first that is, or -1 -/
def firstAt {α : Type} (p : α → Bool) (l : List α) : Int := match l.findIdx? p with | some i => (i : Int) | none => -1
theorem firstAt_here {α : Type} {p : α → Bool} {l : List α} {k : Nat} {d : α} (hd : l[k]? = some d) (hp : p d = true) (hf : ∀ i d, i < k → l[i]? = some d → p d = false) : firstAt p l = k := by
  have hk : k < l.length := (List.getElem?_eq_some_iff.1 hd).1
  have : l.findIdx? p = some k := by
    rw [List.findIdx?_eq_some_iff_getElem]
    refine ⟨hk, ?_, fun j hj => ?_⟩
    · have := (List.getElem?_eq_some_iff.1 hd).2; rw [this]; exact hp
    · simp [hf j _ hj (List.getElem?_eq_getElem (by omega))]
  simp [firstAt, this]
theorem firstAt_none {α : Type} {p : α → Bool} {l : List α} (hf : ∀ i d, i < l.length → l[i]? = some d → p d = false) : firstAt p l = -1 := by
  have : l.findIdx? p = none := by
    rw [List.findIdx?_eq_none_iff]
    intro x hx
    obtain ⟨i, hi⟩ := List.mem_iff_getElem?.1 hx
    exact hf i x (List.getElem?_eq_some_iff.1 hi).1 hi
  simp [firstAt, this]
theorem firstAt_any {α : Type} (p : α → Bool) (l : List α) : decide (0 ≤ firstAt p l) = l.any p := by
  unfold firstAt
  cases h : l.findIdx? p with
  | none =>
    rw [List.findIdx?_eq_none_iff] at h
    simp
    intro x hx
    exact h x hx
  | some i =>
    obtain ⟨hi, hp, _⟩ := List.findIdx?_eq_some_iff_getElem.1 h
    simp
    exact ⟨_, List.getElem_mem hi, hp⟩
theorem toList_inj (a b : ByteArray) : a.toList = b.toList ↔ a = b := by
  rw [ByteArray.toList_eq, ByteArray.toList_eq]
  constructor
  · intro h
    obtain ⟨⟨x⟩⟩ := a
    obtain ⟨⟨y⟩⟩ := b
    simp at h
    simp [h]
  · intro h; rw [h]
/-- two lists, element by element -/
def eqBy {α β : Type} (p : α → β → Bool) : List α → List β → Bool
  | [], [] => true
  | a :: l, b :: m => p a b && eqBy p l m
  | _, _ => false
theorem eqBy_len {α β : Type} (p : α → β → Bool) : ∀ (l : List α) (m : List β), l.length ≠ m.length → eqBy p l m = false
  | [], [], h => absurd rfl h
  | a :: l, b :: m, h => by
    have : l.length ≠ m.length := fun e => h (by simp [e])
    simp [eqBy, eqBy_len p l m this]
  | [], _ :: _, _ => rfl
  | _ :: _, [], _ => rfl
theorem eqBy_no {α β : Type} (p : α → β → Bool) : ∀ (l : List α) (m : List β) (k : Nat) (y : α) (z : β), l[k]? = some y → m[k]? = some z → p y z = false → eqBy p l m = false
  | [], _, k, y, z, h, _, _ => by simp at h
  | _ :: _, [], k, y, z, _, h, _ => by simp at h
  | a :: l, b :: m, 0, y, z, h, h', hp => by
    simp at h h'
    subst h h'
    simp [eqBy, hp]
  | a :: l, b :: m, k + 1, y, z, h, h', hp => by
    simp at h h'
    simp [eqBy, eqBy_no p l m k y z h h' hp]
theorem eqBy_yes {α β : Type} (p : α → β → Bool) : ∀ (l : List α) (m : List β), l.length = m.length → (∀ i y z, i < l.length → l[i]? = some y → m[i]? = some z → p y z = true) → eqBy p l m = true
  | [], [], _, _ => rfl
  | a :: l, b :: m, h, hp => by
    have h0 := hp 0 a b (by simp) rfl rfl
    have h1 := eqBy_yes p l m (by simpa using h) (fun i y z hi hy hz => hp (i + 1) y z (by simpa using hi) (by simpa using hy) (by simpa using hz))
    simp [eqBy, h0, h1]
  | [], _ :: _, h, _ => by simp at h
  | _ :: _, [], h, _ => by simp at h
theorem eqBy_eq {α : Type} [DecidableEq α] : ∀ (l m : List α), eqBy (fun a b => decide (a = b)) l m = decide (l = m)
  | [], [] => by simp [eqBy]
  | a :: l, b :: m => by
    simp only [eqBy, eqBy_eq l m, List.cons.injEq]
    by_cases h : a = b <;> by_cases h' : l = m <;> simp [h, h']
  | [], _ :: _ => by simp [eqBy]
  | _ :: _, [] => by simp [eqBy]
/-- what has been found alike so far, one more -/
theorem so_far {α β : Type} {p : α → β → Bool} {l : List α} {m : List β} {k : Nat} {y : α} {z : β} (hy : l[k]? = some y) (hz : m[k]? = some z) (hp : p y z = true)
    (h : ∀ i y z, i < k → l[i]? = some y → m[i]? = some z → p y z = true) : ∀ i y z, i < k + 1 → l[i]? = some y → m[i]? = some z → p y z = true := by
  intro i y' z' hi h1 h2
  by_cases e : i = k
  · subst e
    rw [hy] at h1; rw [hz] at h2
    injection h1 with h1; injection h2 with h2
    subst h1 h2
    exact hp
  · exact h i y' z' (by omega) h1 h2
theorem so_far1 {α : Type} {p : α → Bool} {b : Bool} {l : List α} {k : Nat} {y : α} (hy : l[k]? = some y) (hp : p y = b)
    (h : ∀ i y, i < k → l[i]? = some y → p y = b) : ∀ i y, i < k + 1 → l[i]? = some y → p y = b := by
  intro i y' hi h1
  by_cases e : i = k
  · subst e
    rw [hy] at h1
    injection h1 with h1
    subst h1
    exact hp
  · exact h i y' (by omega) h1
theorem get_some {α : Type} {l : List α} {k n : Nat} (hl : l.length = n) (h : k < n) : ∃ d, l[k]? = some d := ⟨_, List.getElem?_eq_getElem (by rw [hl]; exact h)⟩
theorem below_drewN {B : Nat} {a w : World} (h : Below B a w) (n : Nat) : Below B a (w.drewN n) := ⟨h.os, h.tape, h.output, h.size, h.block⟩
/-- only draws have been made -/
def Quiet (w w' : World) : Prop := ∃ n, w' = w.drewN n
theorem Quiet.refl (w : World) : Quiet w w := ⟨0, rfl⟩
theorem Quiet.drewN {a w : World} (h : Quiet a w) (n : Nat) : Quiet a (w.drewN n) := by
  obtain ⟨k, rfl⟩ := h
  exact ⟨k + n, by rw [World.drewN_drewN]⟩
theorem Quiet.trans {a b c : World} (h : Quiet a b) (k : Quiet b c) : Quiet a c := by
  obtain ⟨n, rfl⟩ := k
  exact h.drewN n
theorem Quiet.below {a w : World} (h : Quiet a w) (B : Nat) : Below B a w := by
  obtain ⟨n, rfl⟩ := h
  exact below_drewN (Below.refl _ _) n
/-- what a call that leaves the old cells alone leaves to read: two rules for the walk -/
theorem bcell {W w1 : World} {B : Nat} (hb : Below B W w1) : (∀ b o, b < B → w1.cell? ⟨b, o, none⟩ = W.cell? ⟨b, o, none⟩) ∧ (∀ b o, b < B → w1.frozen? ⟨b, o, none⟩ = W.frozen? ⟨b, o, none⟩) :=
  ⟨fun b o h => hb.cell (p := ⟨b, o, none⟩) h, fun b o h => hb.frozen (p := ⟨b, o, none⟩) h⟩
theorem SlR.form' {α : Type} {w : World} {B size : Nat} {R : List Value → α → Prop} {v : Value} {l : List α} (h : SlR w B size R v l) : ∃ (a : Option Addr) (n c : Nat), v = .slice a n c := by
  obtain ⟨a, c, h0, _⟩ := h
  exact ⟨a, _, c, h0⟩
theorem quiet_more {a b : World} {q : Nat} (h : Quiet a (b.drewN q)) (n : Nat) : Quiet a (b.drewN (q + n)) := by
  rw [← World.drewN_drewN]
  exact h.drewN n
/-- a quiet callee's contract in the form that a region that draws its order asks -/
theorem quiet_call {P : Program} {f : FuncId} {args : Array Value} {w : World} {n : Nat} {b c : Bool} (h : Calls P f args (w.drewN n) fun e w' => e = .returned (.bool b) ∧ Quiet (w.drewN n) w') (hb : b = c) :
    Calls P f args (w.drewN n) fun e w'' => e = .returned (.bool c) ∧ ∃ m, w'' = w.drewN m := by
  subst hb
  exact h.mono fun _ _ ⟨he, m, hm⟩ => ⟨he, n + m, by rw [hm, World.drewN_drewN]⟩
theorem below2 {B : Nat} {w : World} {o : Obj} (h : B ≤ w.heap.size) : B ≤ (w.alloc o).heap.size := by simp; omega
theorem below3 {B : Nat} {w : World} {o o' : Obj} (h : B ≤ w.heap.size) : B ≤ ((w.alloc o).alloc o').heap.size := by simp; omega
theorem len1 {x : List Value} (h : x.length = 1) : ∃ u0, x = [u0] := by
  match x, h with
  | [u0], _ => exact ⟨_, rfl⟩
theorem len2 {x : List Value} (h : x.length = 2) : ∃ u0 u1, x = [u0, u1] := by
  match x, h with
  | [u0, u1], _ => exact ⟨_, _, rfl⟩
theorem len3 {x : List Value} (h : x.length = 3) : ∃ u0 u1 u2, x = [u0, u1, u2] := by
  match x, h with
  | [u0, u1, u2], _ => exact ⟨_, _, _, rfl⟩
theorem len4 {x : List Value} (h : x.length = 4) : ∃ u0 u1 u2 u3, x = [u0, u1, u2, u3] := by
  match x, h with
  | [u0, u1, u2, u3], _ => exact ⟨_, _, _, _, rfl⟩
theorem len6 {x : List Value} (h : x.length = 6) : ∃ u0 u1 u2 u3 u4 u5, x = [u0, u1, u2, u3, u4, u5] := by
  match x, h with
  | [u0, u1, u2, u3, u4, u5], _ => exact ⟨_, _, _, _, _, _, rfl⟩
theorem len8 {x : List Value} (h : x.length = 8) : ∃ u0 u1 u2 u3 u4 u5 u6 u7, x = [u0, u1, u2, u3, u4, u5, u6, u7] := by
  match x, h with
  | [u0, u1, u2, u3, u4, u5, u6, u7], _ => exact ⟨_, _, _, _, _, _, _, _, rfl⟩
end Go.Proofs.YtidkbodmiegbkaaGreatDoor
namespace Go.Proofs.YtidkbodmiegbkaaGreatDoor
set_option linter.unusedSimpArgs false
set_option linter.unusedVariables false
open Go.RowKit
/-- cells in a row that read as a list -/
def FlatR {α : Type} (size : Nat) (R : List Value → α → Prop) (xs : List Value) (l : List α) : Prop :=
  xs.length = l.length * size ∧ ∀ (i : Nat) (y : α), l[i]? = some y → R ((xs.drop (i * size)).take size) y
theorem FlatR.nil_ {α : Type} {size : Nat} {R : List Value → α → Prop} : FlatR size R [] ([] : List α) := ⟨by simp, fun i y h => by simp at h⟩
theorem FlatR.app {α : Type} {size : Nat} {R : List Value → α → Prop} {xs ys : List Value} {l m : List α} (h : FlatR size R xs l) (k : FlatR size R ys m) : FlatR size R (xs ++ ys) (l ++ m) := by
  refine ⟨by rw [List.length_append, h.1, k.1, List.length_append, Nat.add_mul], fun i y hy => ?_⟩
  rcases Nat.lt_or_ge i l.length with hi | hi
  · rw [List.getElem?_append_left hi] at hy
    have hle : i * size + size ≤ xs.length := by
      rw [h.1]
      calc i * size + size = (i + 1) * size := by rw [Nat.succ_mul]
        _ ≤ l.length * size := Nat.mul_le_mul_right _ hi
    rw [List.drop_append_of_le_length (by omega), List.take_append_of_le_length (by rw [List.length_drop]; omega)]
    exact h.2 i y hy
  · rw [List.getElem?_append_right hi] at hy
    have e : (xs ++ ys).drop (i * size) = ys.drop ((i - l.length) * size) := by
      have : i * size = xs.length + (i - l.length) * size := by rw [h.1, ← Nat.add_mul]; congr 1; omega
      rw [this, List.drop_append, List.drop_of_length_le (by omega), Nat.add_sub_cancel_left, List.nil_append]
    rw [e]
    exact k.2 _ y hy
theorem FlatR.one {α : Type} {size : Nat} {R : List Value → α → Prop} {xs : List Value} {y : α} (hl : xs.length = size) (h : R xs y) : FlatR size R xs [y] := by
  refine ⟨by simp [hl], fun i z hz => ?_⟩
  rcases i with _ | i
  · simp at hz
    subst hz
    rw [Nat.zero_mul, List.drop_zero, List.take_of_length_le (by omega)]
    exact h
  · simp at hz
theorem FlatR.imp {α : Type} {size : Nat} {R R' : List Value → α → Prop} {xs : List Value} {l : List α} (h : FlatR size R xs l) (hR : ∀ x y, R x y → R' x y) : FlatR size R' xs l := ⟨h.1, fun i y hy => hR _ _ (h.2 i y hy)⟩
/-- a row of the call's own that reads as a list -/
def Own1 {α : Type} (w : World) (base : Nat) (e : TypeId) (size : Nat) (R : List Value → α → Prop) (v : Value) (l : List α) : Prop :=
  ∃ xs, w.ownsRow base e size v l.length xs ∧ FlatR size R xs l
section
variable {α : Type} {w w' : World} {base size : Nat} {e : TypeId} {R R' : List Value → α → Prop} {v : Value} {l : List α}
theorem Own1.alloc (h : Own1 w base e size R v l) (o : Obj) : Own1 (w.alloc o) base e size R v l := by
  obtain ⟨xs, h1, h2⟩ := h
  exact ⟨xs, h1.alloc o, h2⟩
theorem Own1.drew (h : Own1 w base e size R v l) : Own1 w.drew base e size R v l := h
theorem Own1.drewN (h : Own1 w base e size R v l) (n : Nat) : Own1 (w.drewN n) base e size R v l := h
theorem Own1.imp (h : Own1 w base e size R v l) (hR : ∀ x y, R x y → R' x y) : Own1 w base e size R' v l := by
  obtain ⟨xs, h1, h2⟩ := h
  exact ⟨xs, h1, h2.imp hR⟩
theorem Own1.mono {base' : Nat} (h : Own1 w base e size R v l) (hb : base' ≤ base) : Own1 w base' e size R v l := by
  obtain ⟨xs, ⟨h0, h1⟩, h2⟩ := h
  refine ⟨xs, ⟨h0, ?_⟩, h2⟩
  rcases h1 with h1 | ⟨g, cap, cur, r1, r2, r3⟩
  · exact .inl h1
  · exact .inr ⟨g, cap, cur, r1, by omega, r3⟩
/-- behind the growth of a row of another element type -/
theorem Own1.kept {base' size' n' : Nat} {e' : TypeId} {v' : Value} {xs' : List Value} (h : Own1 w base e size R v l) (h' : w.ownsRow base' e' size' v' n' xs') (hne : e ≠ e') (hg : w.grownBy w' v'.ownBlock) : Own1 w' base e size R v l := by
  obtain ⟨xs, h1, h2⟩ := h
  refine ⟨xs, h1.kept hg ?_, h2⟩
  rcases h1.2 with ⟨rfl, _⟩ | ⟨g, cap, cur, rfl, _, hh, _⟩
  · exact .inl rfl
  · refine .inr ?_
    rcases h'.2 with ⟨rfl, _⟩ | ⟨g', cap', cur', rfl, _, hh', _⟩
    · simp [Value.ownBlock]
    · intro he
      simp [Value.ownBlock] at he
      subst he
      rw [hh] at hh'
      injection hh' with hh'
      injection hh' with _ ht
      exact hne ht
/-- below block B, and with B at most the row's own base, it stays -/
theorem Own1.below {B : Nat} (h : Own1 w base e size R v l) (hb : Below B w w') (hB : w.heap.size ≤ B) : Own1 w' base e size R v l := by
  obtain ⟨xs, h1, h2⟩ := h
  refine ⟨xs, ⟨h1.1, ?_⟩, h2⟩
  rcases h1.2 with r | ⟨g, cap, cur, r1, r2, r3, r4⟩
  · exact .inl r
  · have hg : g < w.heap.size := by
      rcases Nat.lt_or_ge g w.heap.size with hlt | hge
      · exact hlt
      · rw [Array.getElem?_eq_none hge] at r3; cases r3
    exact .inr ⟨g, cap, cur, r1, r2, (hb.block g (by omega)).trans r3, r4⟩
theorem Own1.read (h : Own1 w base e size R v l) (hs : 0 < size) : SlR w w.heap.size size R v l := by
  obtain ⟨xs, h1, h2⟩ := h
  rcases h1.2 with ⟨rfl, h0⟩ | ⟨g, cap, cur, rfl, hg, hh, hn, hc, hsz, hxs⟩
  · have : l = [] := List.eq_nil_of_length_eq_zero h0
    subst this
    exact SlR.nil_ _ (by unfold maxLen; omega) _
  · refine ⟨_, cap, rfl, hn, hc, fun hl => ⟨g, 0, rfl, ?_, fun i y hy => ⟨_, ?_, h2.2 i y hy, fun j u hu => ?_⟩⟩⟩
    · rcases Nat.lt_or_ge g w.heap.size with hlt | hge
      · exact hlt
      · rw [Array.getElem?_eq_none hge] at hh; cases hh
    · have hi : i < l.length := (List.getElem?_eq_some_iff.1 hy).1
      have : i * size + size ≤ xs.length := by
        rw [h1.1]
        calc i * size + size = (i + 1) * size := by rw [Nat.succ_mul]
          _ ≤ l.length * size := Nat.mul_le_mul_right _ hi
      rw [List.length_take, List.length_drop]
      omega
    · have hj : j < size := by
        have := (List.getElem?_eq_some_iff.1 hu).1
        rw [List.length_take] at this
        omega
      have hx : xs[i * size + j]? = some u := by
        rw [List.getElem?_take_of_lt hj, List.getElem?_drop] at hu
        exact hu
      have := h1.cells (g := g) rfl _ _ hx
      have e' : ((⟨g, 0, none⟩ : Addr).add (i * size + j)) = ⟨g, 0 + i * size + j, none⟩ := by
        unfold Addr.add
        split
        · rename_i h0
          rw [Nat.zero_add, h0]
        · rw [Nat.zero_add, Nat.zero_add]
      rwa [e'] at this
/-- a slice that is read, as cells in a row -/
theorem SlR.flat {B : Nat} {a : Option Addr} {n c : Nat} (h : SlR w B size R (.slice a n c) l) : ∃ news, FlatR size R news l ∧ (a = none → n = 0) ∧ (∀ ad, a = some ad → 0 < n → ∀ j u, news[j]? = some u → w.cell? (ad.add j) = some u) := by
  obtain ⟨a', c', hv, h1, h2, h3⟩ := h
  injection hv with e1 e2 e3
  subst e1 e2 e3
  rcases Nat.eq_zero_or_pos l.length with h0 | h0
  · have : l = [] := List.eq_nil_of_length_eq_zero h0
    subst this
    exact ⟨[], FlatR.nil_, fun _ => rfl, fun ad _ hn => absurd hn (by simp)⟩
  · obtain ⟨b, off, rfl, hb, hc⟩ := h3 h0
    have key : ∀ m, m ≤ l.length → ∃ news, FlatR size R news (l.take m) ∧ ∀ j u, news[j]? = some u → w.cell? ⟨b, off + j, none⟩ = some u := by
      intro m
      induction m with
      | zero => exact fun _ => ⟨[], by simpa using FlatR.nil_, fun j u hu => by simp at hu⟩
      | succ m ih =>
        intro hm
        obtain ⟨news, hf, hcell⟩ := ih (by omega)
        have hy : l[m]? = some l[m] := List.getElem?_eq_getElem (by omega)
        obtain ⟨x, hx1, hx2, hx3⟩ := hc m _ hy
        refine ⟨news ++ x, ?_, fun j u hu => ?_⟩
        · rw [List.take_succ_eq_append_getElem (by omega)]
          exact hf.app (FlatR.one hx1 hx2)
        · have hln : news.length = m * size := by rw [hf.1, List.length_take, Nat.min_eq_left (by omega)]
          rcases Nat.lt_or_ge j news.length with hj | hj
          · rw [List.getElem?_append_left hj] at hu
            exact hcell j u hu
          · rw [List.getElem?_append_right hj] at hu
            have := hx3 _ u hu
            have e : off + m * size + (j - news.length) = off + j := by omega
            rwa [e] at this
    obtain ⟨news, hf, hcell⟩ := key l.length (Nat.le_refl _)
    rw [List.take_length] at hf
    refine ⟨news, hf, (fun h => by cases h), fun ad had hn j u hu => ?_⟩
    injection had with had
    subst had
    have := hcell j u hu
    have e : ((⟨b, off, none⟩ : Addr).add j) = ⟨b, off + j, none⟩ := by
      unfold Addr.add
      split
      · rename_i h0
        rw [h0, Nat.add_zero]
      · rfl
    rw [e]
    exact this
end
/-- the empty row that a literal without elements makes -/
theorem Own1.empty {α : Type} {w : World} {base size g : Nat} {e : TypeId} {R : List Value → α → Prop} (hg : g = w.heap.size) (hb : base ≤ w.heap.size) : Own1 (w.alloc (.cells #[] e)) base e size R (.slice (some ⟨g, 0, none⟩) 0 0) ([] : List α) := by
  subst hg
  refine ⟨[], ⟨by simp, .inr ⟨w.heap.size, 0, #[], rfl, hb, heap_alloc_new w _, by simp, by simp [maxLen], by simp, by simp⟩⟩, FlatR.nil_⟩
/-- a store into a block ahead of the row's base -/
theorem Own1.setFar {α : Type} {w : World} {base size : Nat} {e : TypeId} {R : List Value → α → Prop} {v : Value} {l : List α} (h : Own1 w base e size R v l) {p : Addr} (hp : p.block < base) (u : Value) : Own1 (w.setCell p u) base e size R v l := by
  obtain ⟨xs, h1, h2⟩ := h
  exact ⟨xs, ownsRow_setCell_below h1 hp u, h2⟩
theorem Own1.form {α : Type} {w : World} {base size : Nat} {e : TypeId} {R : List Value → α → Prop} {v : Value} {l : List α} (h : Own1 w base e size R v l) : ∃ a c, v = .slice a l.length c := by
  obtain ⟨xs, h1, _⟩ := h
  rcases h1.2 with ⟨rfl, h0⟩ | ⟨g, cap, cur, rfl, _⟩
  · exact ⟨_, _, by rw [h0]⟩
  · exact ⟨_, _, rfl⟩
theorem Own1.block {α : Type} {w : World} {base size : Nat} {e : TypeId} {R : List Value → α → Prop} {v : Value} {l : List α} (h : Own1 w base e size R v l) : ∀ k, v.ownBlock = some k → base ≤ k ∧ k < w.heap.size := by
  obtain ⟨xs, h1, _⟩ := h
  exact h1.lt
theorem Own1.kept1 {α β : Type} {w w' : World} {base size base' size' : Nat} {e e' : TypeId} {R : List Value → α → Prop} {R' : List Value → β → Prop} {v v' : Value} {l : List α} {l' : List β} (h : Own1 w base e size R v l) (h' : Own1 w base' e' size' R' v' l') (hne : e ≠ e') (hg : w.grownBy w' v'.ownBlock) : Own1 w' base e size R v l := by
  obtain ⟨xs, h1, _⟩ := h'
  exact h.kept h1 hne hg
/-- one element more in new memory: the row of a literal with one element -/
theorem SlR.new1 {α : Type} {w : World} {size : Nat} {e : TypeId} {R : List Value → α → Prop} {x : List Value} {y : α} {g : Nat} (hg : g = w.heap.size) (hl : x.length = size) (hR : R x y) : SlR (w.alloc (.cells x.toArray e)) (w.heap.size + 1) size R (.slice (some ⟨g, 0, none⟩) 1 1) [y] := by
  subst hg
  refine ⟨some ⟨w.heap.size, 0, none⟩, 1, rfl, Nat.le_refl _, by unfold maxLen; omega, fun _ => ⟨w.heap.size, 0, rfl, by omega, fun i z hz => ?_⟩⟩
  rcases i with _ | i
  · simp at hz
    subst hz
    refine ⟨x, hl, hR, fun j u hu => ?_⟩
    have : (w.alloc (.cells x.toArray e)).heap[w.heap.size]? = some (.cells x.toArray e (0, 0)) := heap_alloc_new w _
    rw [World.cell?]
    show (match (w.alloc (.cells x.toArray e)).heap[w.heap.size]? with | some (.cells c _ _) => _ | _ => none) = _
    rw [this]
    simpa using hu
  · simp at hz
section
variable {P : Program} {α : Type}
theorem run_append_list (w : World) (base B : Nat) (t ty e : TypeId) (i : TypeInfo) (z : Value) (size bytes : Nat) (ht : P.underlying t = some (.slice e)) (hi : P.info? e = some i) (hz : i.zero = some z)
    (hsize : i.size = size) (hby : i.bytes = bytes) (hzs : z.cells.size = size) (hsz : 0 < size) {R : List Value → α → Prop} {l m : List α}
    (v : Value) (hown : Own1 w base e size R v l) (A : Option Addr) (n c : Nat) (hsrc : SlR w B size R (.slice A n c) m)
    (h1 : ∀ x y, R x y → ∀ u ∈ x, u.oneCell' = true) (h63 : l.length + n ≤ maxLen) (hbytes : (l.length + n) * bytes ≤ 140737488355328) (hbase : base ≤ w.heap.size) :
    ∃ v' w', (Builtin.append_ #[t, t] ty #[v, .slice A n c]).run P w = .ok v' w' ∧ Own1 w' base e size R v' (l ++ m) ∧ w.grownBy w' v.ownBlock ∧ (v'.ownBlock = v.ownBlock ∨ v'.ownBlock = some w.heap.size) := by
  obtain ⟨news, hf, hnone, hcell⟩ := hsrc.flat
  have hn : n = m.length := hsrc.len
  obtain ⟨xs, hx, hxf⟩ := hown
  have hone : ∀ u ∈ news, u.oneCell' = true := by
    intro u hu
    obtain ⟨k, hk⟩ := List.mem_iff_getElem?.1 hu
    have hkl : k < news.length := (List.getElem?_eq_some_iff.1 hk).1
    have hkm : k / size < m.length := by rw [hf.1] at hkl; exact Nat.div_lt_of_lt_mul (by rwa [Nat.mul_comm])
    refine h1 _ _ (hf.2 (k / size) _ (List.getElem?_eq_getElem hkm)) u ?_
    refine List.mem_iff_getElem?.2 ⟨k % size, ?_⟩
    rw [List.getElem?_take_of_lt (Nat.mod_lt _ hsz), List.getElem?_drop, Nat.mul_comm, Nat.div_add_mod, hk]
  rcases A with _ | ad
  · have h0 := hnone rfl
    have hm : m = [] := List.eq_nil_of_length_eq_zero (by omega)
    subst hm
    subst h0
    refine ⟨v, w, ?_, ⟨xs, by simpa using hx, by simpa using hxf⟩, World.grownBy.refl w _, .inl rfl⟩
    rcases hx.2 with ⟨rfl, h0'⟩ | ⟨g, cap, cur, rfl, _, _, hnc, _⟩
    · simp [Builtin.append_, run_underlying ht, sizeOf, typeInfo, hi, Builtin.lenOf, Builtin.firstCells]
    · simp [Builtin.append_, run_underlying ht, sizeOf, typeInfo, hi, Builtin.lenOf, Builtin.firstCells, hnc, storeCells]
  · have hcells : ∀ j u, news[j]? = some u → w.cell? (ad.add j) = some u := by
      intro j u hu
      rcases Nat.eq_zero_or_pos n with h0 | h0
      · have hl0 : news.length = 0 := by rw [hf.1, ← hn, h0, Nat.zero_mul]
        have : news = [] := List.eq_nil_of_length_eq_zero hl0
        subst this
        simp at hu
      · exact hcell ad rfl h0 j u hu
    obtain ⟨v', w', hrun, h2, h3, _, h5⟩ := run_append_own_at (P := P) w base t ty e i z size bytes ht hi hz hsize hby hzs hsz v l.length xs hx ad n c news (by rw [hf.1, hn]) hcells hone h63 hbytes hbase
    exact ⟨v', w', hrun, ⟨xs ++ news, by rw [List.length_append, ← hn]; exact h2, hxf.app hf⟩, h3, h5⟩
theorem wpList_append_list {ops : Array Oper} {rest : List Oper} {o : Oper} {a : Act} {Q : Exit → Act → World → Prop} {w : World} (hgd : o.guard = none) (s x : Operand) (t : TypeId)
    (ho : o.op = .call { callee := .builtin .append, args := #[s, x], argTypes := #[t, t] })
    (base B : Nat) (e : TypeId) (i : TypeInfo) (z : Value) (size bytes : Nat) (ht : P.underlying t = some (.slice e)) (hi : P.info? e = some i) (hz : i.zero = some z)
    (hsize : i.size = size) (hby : i.bytes = bytes) (hzs : z.cells.size = size) (hsz : 0 < size) {R : List Value → α → Prop} {l m : List α}
    (v : Value) (hs : a.eval s = v) (hown : Own1 w base e size R v l) (A : Option Addr) (n c : Nat) (hx : a.eval x = .slice A n c) (hsrc : SlR w B size R (.slice A n c) m)
    (N : Nat) (hN : N = l.length + n) (h1 : ∀ x y, R x y → ∀ u ∈ x, u.oneCell' = true) (h63 : l.length + n ≤ maxLen) (hbytes : (l.length + n) * bytes ≤ 140737488355328) (hbase : base ≤ w.heap.size)
    (h : ∀ (a' : Option Addr) (c' : Nat) w', Own1 w' base e size R (.slice a' N c') (l ++ m) → w.grownBy w' v.ownBlock → wpList P ops Q rest (a.put o.dst (.slice a' N c')) w') : wpList P ops Q (o :: rest) a w := by
  refine wpList_plain hgd fun K hK => ?_
  obtain ⟨v', w', hrun, h2, h3, _⟩ := run_append_list (P := P) w base B t o.type e i z size bytes ht hi hz hsize hby hzs hsz v hown A n c hsrc h1 h63 hbytes hbase
  unfold Oper.wp execOp
  simp only [ho, resolve, invoke, builtin, Sem.run_bind, Sem.run_pure, Result.andThen_ok, List.map_toArray, List.map_cons, List.map_nil, hs, hx, hrun]
  obtain ⟨a', c', rfl⟩ := h2.form
  have e : (l ++ m).length = N := by rw [hN, List.length_append, hsrc.len]
  rw [e] at h2 ⊢
  exact hK _ _ (h a' c' w' h2 h3)
theorem step_append_list {ops : Array Oper} {o : Oper} {a : Act} {K : Act → World → Prop} {Q : Exit → Act → World → Prop} {E : Prop} {w : World} (hgd : o.guard = none) (s x : Operand) (t : TypeId)
    (ho : o.op = .call { callee := .builtin .append, args := #[s, x], argTypes := #[t, t] })
    (base B : Nat) (e : TypeId) (i : TypeInfo) (z : Value) (size bytes : Nat) (ht : P.underlying t = some (.slice e)) (hi : P.info? e = some i) (hz : i.zero = some z)
    (hsize : i.size = size) (hby : i.bytes = bytes) (hzs : z.cells.size = size) (hsz : 0 < size) {R : List Value → α → Prop} {l m : List α}
    (v : Value) (hs : a.eval s = v) (hown : Own1 w base e size R v l) (A : Option Addr) (n c : Nat) (hx : a.eval x = .slice A n c) (hsrc : SlR w B size R (.slice A n c) m)
    (N : Nat) (hN : N = l.length + n) (h1 : ∀ x y, R x y → ∀ u ∈ x, u.oneCell' = true) (h63 : l.length + n ≤ maxLen) (hbytes : (l.length + n) * bytes ≤ 140737488355328) (hbase : base ≤ w.heap.size)
    (h : ∀ (a' : Option Addr) (c' : Nat) w', Own1 w' base e size R (.slice a' N c') (l ++ m) → w.grownBy w' v.ownBlock → K (a.put o.dst (.slice a' N c')) w') : if Region.wanted o (yielded ops a.tmps) = true then Oper.wp P o a w K Q else E := by
  rw [if_pos (by simp [Region.wanted, hgd])]
  obtain ⟨v', w', hrun, h2, h3, _⟩ := run_append_list (P := P) w base B t o.type e i z size bytes ht hi hz hsize hby hzs hsz v hown A n c hsrc h1 h63 hbytes hbase
  unfold Oper.wp execOp
  simp only [ho, resolve, invoke, builtin, Sem.run_bind, Sem.run_pure, Result.andThen_ok, List.map_toArray, List.map_cons, List.map_nil, hs, hx, hrun]
  obtain ⟨a', c', rfl⟩ := h2.form
  have e : (l ++ m).length = N := by rw [hN, List.length_append, hsrc.len]
  rw [e] at h2 ⊢
  exact h a' c' w' h2 h3
end
/-- from w to w' every row from 'base' on stays, whatever it holds, but for rows of the element types of 'bad' -/
def Stays (w w' : World) (base : Nat) (bad : TypeId → Bool) : Prop :=
  ∀ (α : Type) (size : Nat) (e : TypeId) (R : List Value → α → Prop) (v : Value) (l : List α), bad e = false → Own1 w base e size R v l → Own1 w' base e size R v l
theorem Stays.refl (w : World) (base : Nat) (bad : TypeId → Bool) : Stays w w base bad := fun _ _ _ _ _ _ _ h => h
theorem Stays.trans {a b c : World} {base : Nat} {bad : TypeId → Bool} (h : Stays a b base bad) (k : Stays b c base bad) : Stays a c base bad := fun α size e R v l hb ho => k α size e R v l hb (h α size e R v l hb ho)
theorem Stays.worse {a b : World} {base : Nat} {bad bad' : TypeId → Bool} (h : Stays a b base bad) (hb : ∀ e, bad' e = false → bad e = false) : Stays a b base bad' := fun α size e R v l hbe ho => h α size e R v l (hb e hbe) ho
theorem Stays.of_below {a b : World} {base B : Nat} (h : Below B a b) (hB : a.heap.size ≤ B) : Stays a b base (fun _ => false) := fun _ _ _ _ _ _ _ ho => ho.below h hB
theorem Stays.of_set {w : World} {base : Nat} {p : Addr} (hp : p.block < base) (u : Value) : Stays w (w.setCell p u) base (fun _ => false) := fun _ _ _ _ _ _ _ ho => ho.setFar hp u
theorem Stays.of_alloc (w : World) (base : Nat) (o : Obj) : Stays w (w.alloc o) base (fun _ => false) := fun _ _ _ _ _ _ _ ho => ho.alloc o
theorem Stays.of_drew (w : World) (base : Nat) : Stays w w.drew base (fun _ => false) := fun _ _ _ _ _ _ _ ho => ho
theorem Stays.of_grown {α : Type} {a b : World} {base base' size' : Nat} {e' : TypeId} {R' : List Value → α → Prop} {v' : Value} {l' : List α} (h' : Own1 a base' e' size' R' v' l') (hg : a.grownBy b v'.ownBlock) : Stays a b base (fun e => e == e') :=
  fun _ _ e _ _ _ hb ho => ho.kept1 h' (by simpa using hb) hg
/-- a block that is known whole -/
def Blk (w : World) (g : Nat) (t : TypeId) (cs : Array Value) : Prop := w.heap[g]? = some (.cells cs t (0, 0))
theorem Blk.lt {w : World} {g : Nat} {t : TypeId} {cs : Array Value} (h : Blk w g t cs) : g < w.heap.size := by
  rcases Nat.lt_or_ge g w.heap.size with hlt | hge
  · exact hlt
  · unfold Blk at h; rw [Array.getElem?_eq_none hge] at h; cases h
theorem Blk.cell {w : World} {g : Nat} {t : TypeId} {cs : Array Value} (h : Blk w g t cs) {i : Nat} {u : Value} (hi : cs[i]? = some u) : w.cell? ⟨g, i, none⟩ = some u := by
  unfold Blk at h
  simp [World.cell?, h, hi]
theorem Blk.frozen {w : World} {g : Nat} {t : TypeId} {cs : Array Value} (h : Blk w g t cs) (i : Nat) : w.frozen? ⟨g, i, none⟩ = false := by
  unfold Blk at h
  simp [World.frozen?, h]
theorem Blk.keep {w w' : World} {g : Nat} {t : TypeId} {cs : Array Value} (h : Blk w g t cs) (hk : w'.heap[g]? = w.heap[g]?) : Blk w' g t cs := hk.trans h
theorem Blk.below {w w' : World} {g B : Nat} {t : TypeId} {cs : Array Value} (h : Blk w g t cs) (hb : Below B w w') (hg : g < B) : Blk w' g t cs := (hb.block g hg).trans h
theorem Blk.grown {w w' : World} {g : Nat} {t : TypeId} {cs : Array Value} {row : Option Nat} (h : Blk w g t cs) (hb : w.grownBy w' row) (hg : some g ≠ row) : Blk w' g t cs := (hb.block g h.lt hg).trans h
theorem Blk.alloc {w : World} {g : Nat} {t : TypeId} {cs : Array Value} (h : Blk w g t cs) (o : Obj) : Blk (w.alloc o) g t cs := (Below.heap_alloc w o g h.lt).trans h
theorem Blk.new (w : World) (t : TypeId) (cs : Array Value) : Blk (w.alloc (.cells cs t)) w.heap.size t cs := heap_alloc_new w _
theorem Blk.new_ {w : World} {g : Nat} (hg : g = w.heap.size) (t : TypeId) (cs : Array Value) : Blk (w.alloc (.cells cs t)) g t cs := by subst hg; exact heap_alloc_new w _
theorem Blk.set_ {w : World} {g : Nat} {t : TypeId} {cs : Array Value} (h : Blk w g t cs) (i : Nat) (u : Value) : Blk (w.setCell ⟨g, i, none⟩ u) g t (cs.setIfInBounds i u) := by
  unfold Blk at h ⊢
  simp [World.setCell, Array.getElem?_modify, h]
theorem Blk.far {w : World} {g : Nat} {t : TypeId} {cs : Array Value} (h : Blk w g t cs) {p : Addr} (hp : g ≠ p.block) (u : Value) : Blk (w.setCell p u) g t cs := (Below.heap_setCell w p u g hp).trans h
end Go.Proofs.YtidkbodmiegbkaaGreatDoor
namespace Go.Proofs.YtidkbodmiegbkaaGreatDoor
set_option linter.unusedSimpArgs false
set_option linter.unusedVariables false
open Go.RowKit
/-- a text's bytes, as numbers -/
def bs (s : ByteArray) : List Nat := s.data.toList.map UInt8.toNat
/-- a text, of numbers -/
def txt (l : List Nat) : ByteArray := ⟨(l.map UInt8.ofNat).toArray⟩
def Bytes (l : List Nat) : Prop := ∀ n ∈ l, n < 256
theorem bs_len (s : ByteArray) : (bs s).length = s.size := by
  unfold bs
  rw [List.length_map, Array.length_toList]
  rfl
theorem bs_at {s : ByteArray} {i : Nat} (h : i < s.size) : (bs s)[i]? = some (s[i]'h).toNat := by
  have h' : i < s.data.size := h
  have e : s[i]'h = s.data[i]'h' := rfl
  rw [e]
  unfold bs
  rw [List.getElem?_map, Array.getElem?_toList, Array.getElem?_eq_getElem h']
  rfl
theorem bs_bytes (s : ByteArray) : Bytes (bs s) := by
  intro n h
  simp only [bs, List.mem_map] at h
  obtain ⟨b, _, rfl⟩ := h
  exact b.toNat_lt
theorem txt_bs (s : ByteArray) : txt (bs s) = s := by
  obtain ⟨⟨l⟩⟩ := s
  simp [txt, bs, Function.comp_def]
theorem bs_txt {l : List Nat} (h : Bytes l) : bs (txt l) = l := by
  simp only [txt, bs, List.toList_toArray, List.map_map]
  conv => rhs; rw [← List.map_id l]
  apply List.map_congr_left
  intro n hn
  have := h n hn
  simp [Nat.mod_eq_of_lt this]
theorem bs_inj {s t : ByteArray} (h : bs s = bs t) : s = t := by rw [← txt_bs s, ← txt_bs t, h]
theorem txt_size (l : List Nat) : (txt l).size = l.length := by simp [txt, ByteArray.size]
theorem bs_extract (s : ByteArray) (i j : Nat) : bs (s.extract i j) = ((bs s).take j).drop i := by
  have : (s.extract i j).data = s.data.extract i j := ByteArray.data_extract ..
  simp [bs, this, List.extract_eq_take_drop, List.map_take, List.map_drop, List.drop_take]
theorem bytes_nil : Bytes [] := fun n h => by simp at h
theorem bytes_app {l m : List Nat} (h : Bytes l) (k : Bytes m) : Bytes (l ++ m) := fun n hn => by
  rcases List.mem_append.1 hn with h' | h'
  · exact h n h'
  · exact k n h'
/-- a byte's cell -/
def IsByte (x : List Value) (n : Nat) : Prop := x = [.int .u8 (n : Int)] ∧ n < 256
theorem IsByte.one (x : List Value) (n : Nat) (h : IsByte x n) : ∀ u ∈ x, u.oneCell' = true := by
  intro u hu
  rw [h.1] at hu
  simp at hu
  subst hu
  rfl
theorem byteRow {xs : List Value} {l : List Nat} (h : FlatR 1 IsByte xs l) : xs = l.map (fun (n : Nat) => Value.int .u8 (n : Int)) ∧ Bytes l := by
  obtain ⟨h1, h2⟩ := h
  have h1' : xs.length = l.length := by omega
  refine ⟨List.ext_getElem? fun i => ?_, fun n hn => ?_⟩
  · by_cases hi : i < l.length
    · have hy : l[i]? = some l[i] := List.getElem?_eq_getElem hi
      have := (h2 i _ hy).1
      rw [Nat.mul_one, List.drop_eq_getElem_cons (by omega), List.take_succ_cons, List.take_zero] at this
      rw [List.getElem?_eq_getElem (by omega), List.getElem?_map, hy]
      injection this with e2 _
      rw [e2]
      rfl
    · rw [List.getElem?_eq_none (by omega), List.getElem?_eq_none (by simp; omega)]
  · obtain ⟨i, hi⟩ := List.mem_iff_getElem?.1 hn
    exact (h2 i n hi).2
theorem byteRow_mk {l : List Nat} (h : Bytes l) : FlatR 1 IsByte (l.map (fun (n : Nat) => Value.int .u8 (n : Int))) l := by
  refine ⟨by simp, fun i y hy => ?_⟩
  have hi : i < l.length := (List.getElem?_eq_some_iff.1 hy).1
  have hm : i < (l.map (fun (n : Nat) => Value.int .u8 (n : Int))).length := by simpa using hi
  rw [Nat.mul_one, List.drop_eq_getElem_cons hm]
  refine ⟨by simp [(List.getElem?_eq_some_iff.1 hy).2], h y (List.mem_iff_getElem?.2 ⟨i, hy⟩)⟩
theorem strCells_eq (s : ByteArray) : Lib.strCells s = (bs s).map (fun (n : Nat) => Value.int .u8 (n : Int)) := by
  simp [Lib.strCells, bs, Function.comp_def]
section
variable {P : Program}
/-- 'string(b)' of a byte row of the call's own -/
theorem run_text_of_row {w : World} {base : Nat} {v : Value} {l : List Nat} (src dst e : TypeId) (hs : P.underlying src = some (.slice e)) (he : P.underlying e = some (.int .u8)) (hd : P.underlying dst = some .string) (h : Own1 w base e 1 IsByte v l) :
    (convert src dst v).run P w = .ok (.string (txt l)) w := by
  obtain ⟨xs, h1, h2⟩ := h
  obtain ⟨rfl, hb⟩ := byteRow h2
  rcases h1.2 with ⟨rfl, h0⟩ | ⟨g, cap, cur, rfl, _⟩
  · have : l = [] := List.eq_nil_of_length_eq_zero h0
    subst this
    rw [run_convert_bytes_string w src dst e none 0 0 hs he hd]
    rfl
  · have hl : (l.map UInt8.ofNat).length = l.length := by simp
    have hcell := h1.cells (g := g) rfl
    have := run_convert_bytes_back (P := P) w src dst e ⟨g, 0, none⟩ cap (l.map UInt8.ofNat) hs he hd (fun j hj => by
      have hj' : j < l.length := by simpa using hj
      have hn : l[j] < 256 := hb _ (List.getElem_mem hj')
      refine hcell j _ ?_
      simp [List.getElem?_eq_getElem hj', Nat.mod_eq_of_lt hn])
    rw [hl] at this
    exact this
theorem below_of_grown {α : Type} {w w' : World} {base size : Nat} {e : TypeId} {R : List Value → α → Prop} {v : Value} {l : List α} (h : Own1 w base e size R v l) (hb : base ≤ w.heap.size) (hg : w.grownBy w' v.ownBlock) : Below base w w' :=
  (Below.refl base w).grown hg hb (fun g hg => (h.block g hg).1)
/-- 'append(b, ..)' of bytes that are read onto a byte row of the call's own -/
theorem wpList_append_bytes {ops : Array Oper} {rest : List Oper} {o : Oper} {a : Act} {Q : Exit → Act → World → Prop} {w : World} (hgd : o.guard = none) (s x : Operand) (t : TypeId)
    (ho : o.op = .call { callee := .builtin .append, args := #[s, x], argTypes := #[t, t] })
    (base B : Nat) (e : TypeId) (i : TypeInfo) (ht : P.underlying t = some (.slice e)) (hi : P.info? e = some i) (hz : i.zero = some (.int .u8 0)) (hsize : i.size = 1) (hby : i.bytes = 1)
    {l m : List Nat} (v : Value) (hs : a.eval s = v) (hown : Own1 w base e 1 IsByte v l) (A : Option Addr) (n c : Nat) (hx : a.eval x = .slice A n c) (hsrc : SlR w B 1 IsByte (.slice A n c) m)
    (hfit : l.length + n ≤ 140737488355328) (hbase : base ≤ w.heap.size)
    (h : ∀ (a' : Option Addr) (n' c' : Nat) w', Own1 w' base e 1 IsByte (.slice a' n' c') (l ++ m) → Below base w w' → wpList P ops Q rest (a.put o.dst (.slice a' n' c')) w') : wpList P ops Q (o :: rest) a w :=
  wpList_append_list hgd s x t ho base B e i _ 1 1 ht hi hz hsize hby rfl (by omega) v hs hown A n c hx hsrc _ rfl IsByte.one (by unfold maxLen; omega) (by omega) hbase (fun a' c' w' h1 h2 => h a' _ c' w' h1 (below_of_grown hown hbase h2))
theorem step_append_bytes {ops : Array Oper} {o : Oper} {a : Act} {K : Act → World → Prop} {Q : Exit → Act → World → Prop} {E : Prop} {w : World} (hgd : o.guard = none) (s x : Operand) (t : TypeId)
    (ho : o.op = .call { callee := .builtin .append, args := #[s, x], argTypes := #[t, t] })
    (base B : Nat) (e : TypeId) (i : TypeInfo) (ht : P.underlying t = some (.slice e)) (hi : P.info? e = some i) (hz : i.zero = some (.int .u8 0)) (hsize : i.size = 1) (hby : i.bytes = 1)
    {l m : List Nat} (v : Value) (hs : a.eval s = v) (hown : Own1 w base e 1 IsByte v l) (A : Option Addr) (n c : Nat) (hx : a.eval x = .slice A n c) (hsrc : SlR w B 1 IsByte (.slice A n c) m)
    (hfit : l.length + n ≤ 140737488355328) (hbase : base ≤ w.heap.size)
    (h : ∀ (a' : Option Addr) (n' c' : Nat) w', Own1 w' base e 1 IsByte (.slice a' n' c') (l ++ m) → Below base w w' → K (a.put o.dst (.slice a' n' c')) w') : if Region.wanted o (yielded ops a.tmps) = true then Oper.wp P o a w K Q else E :=
  step_append_list hgd s x t ho base B e i _ 1 1 ht hi hz hsize hby rfl (by omega) v hs hown A n c hx hsrc _ rfl IsByte.one (by unfold maxLen; omega) (by omega) hbase (fun a' c' w' h1 h2 => h a' _ c' w' h1 (below_of_grown hown hbase h2))
/-- the row of a literal of bytes -/
theorem own_bytes {w : World} {base g : Nat} {e : TypeId} {l : List Nat} {xs : List Value} (hg : g = w.heap.size) (hb : base ≤ w.heap.size) (hx : xs = l.map (fun (n : Nat) => Value.int .u8 (n : Int))) (hl : Bytes l) (hm : l.length ≤ maxLen) (n c : Nat) (hn : n = l.length) (hc : c = l.length) :
    Own1 (w.alloc (.cells xs.toArray e)) base e 1 IsByte (.slice (some ⟨g, 0, none⟩) n c) l := by
  subst hg hx hn hc
  refine ⟨l.map (fun (n : Nat) => Value.int .u8 (n : Int)), ⟨by simp, .inr ⟨w.heap.size, l.length, (l.map (fun (n : Nat) => Value.int .u8 (n : Int))).toArray, rfl, hb, heap_alloc_new w _, Nat.le_refl _, hm, by simp, by simp [List.take_of_length_le]⟩⟩, byteRow_mk hl⟩
theorem bytes_row {w : World} {g : Nat} {e : TypeId} {l : List Nat} {xs : List Value} (hg : g = w.heap.size) (hx : xs = l.map (fun (n : Nat) => Value.int .u8 (n : Int))) (hl : Bytes l) (hm : l.length ≤ maxLen) (n c : Nat) (hn : n = l.length) (hc : c = l.length) :
    SlR (w.alloc (.cells xs.toArray e)) (w.heap.size + 1) 1 IsByte (.slice (some ⟨g, 0, none⟩) n c) l := by
  have := (own_bytes (base := 0) hg (Nat.zero_le _) hx hl hm n c hn hc (e := e)).read (by omega)
  rw [World.size_alloc] at this
  exact this
end
end Go.Proofs.YtidkbodmiegbkaaGreatDoor
namespace Go.Proofs.YtidkbodmiegbkaaGreatDoor
set_option linter.unusedSimpArgs false
set_option linter.unusedVariables false
open Go.RowKit
theorem get_bs {s : ByteArray} {k : Nat} (h : k < s.size) : ∃ c, (bs s)[k]? = some c ∧ c < 256 := ⟨_, bs_at h, UInt8.toNat_lt _⟩
theorem index_txt (W : World) (t : TypeId) (ht : Tryz.prog.underlying t = some .string) {s : ByteArray} {k c : Nat} (hc : (bs s)[k]? = some c) (ik : IntKind) (i : Int) (hi : i = (k : Int)) :
    (Instr.index t (.string s) (.int ik i)).run Tryz.prog W = .ok (.int .u8 (c : Int)) W := by
  have hk : k < s.size := by rw [← bs_len]; exact (List.getElem?_eq_some_iff.1 hc).1
  subst hi
  rw [run_index_string W t _ ik _ ht, dif_pos ⟨Int.natCast_nonneg _, by omega⟩]
  have e : ∀ hh, (s[(k : Int).toNat]'hh).toNat = c := by
    intro hh
    have h2 : k < s.size := hk
    have h3 := bs_at h2
    rw [h3] at hc
    exact Option.some.inj hc
  rw [e]
end Go.Proofs.YtidkbodmiegbkaaGreatDoor
namespace Go.Proofs.YtidkbodmiegbkaaGreatDoor
set_option linter.unusedSimpArgs false
set_option linter.unusedVariables false
/-- the decimal digits of a number -/
def dec (u : Nat) : List Nat := if h : u < 10 then [48 + u] else dec (u / 10) ++ [48 + u % 10]
termination_by u
decreasing_by omega
/-- what digits spell, behind 'a' -/
def val (a : Nat) (l : List Nat) : Nat := l.foldl (fun a c => 10 * a + (c - 48)) a
def Digits (l : List Nat) : Prop := ∀ c ∈ l, 48 ≤ c ∧ c ≤ 57
instance (l : List Nat) : Decidable (Digits l) := inferInstanceAs (Decidable (∀ c ∈ l, 48 ≤ c ∧ c ≤ 57))
/-- a number's one text -/
def showN (n : Int) : List Nat := if n < 0 then 45 :: dec n.natAbs else dec n.toNat
/-- a text's number -/
def intN (l : List Nat) : Option Int :=
  if l.head? = some 45 then
    if l.tail = [] ∨ 19 < l.tail.length ∨ l.tail.head? = some 48 then none else if Digits l.tail then (if 9223372036854775808 < val 0 l.tail then none else some (-(val 0 l.tail : Int))) else none
  else
    if l = [] ∨ 19 < l.length ∨ (l.head? = some 48 ∧ 1 < l.length) then none else if Digits l then (if 9223372036854775807 < val 0 l then none else some (val 0 l : Int)) else none
theorem dec_small {u : Nat} (h : u < 10) : dec u = [48 + u] := by rw [dec, dif_pos h]
theorem dec_big {u : Nat} (h : ¬ u < 10) : dec u = dec (u / 10) ++ [48 + u % 10] := by rw [dec, dif_neg h]
theorem val_app (a : Nat) (l m : List Nat) : val a (l ++ m) = val (val a l) m := by simp [val]
theorem val_dec (u : Nat) : val 0 (dec u) = u := by
  induction u using Nat.strongRecOn with
  | _ u ih =>
    by_cases h : u < 10
    · rw [dec_small h]; simp [val]
    · rw [dec_big h, val_app, ih (u / 10) (by omega)]; simp [val]; omega
theorem dec_digits (u : Nat) : Digits (dec u) := by
  induction u using Nat.strongRecOn with
  | _ u ih =>
    by_cases h : u < 10
    · rw [dec_small h]; intro c hc; simp at hc; omega
    · rw [dec_big h]; intro c hc
      rcases List.mem_append.1 hc with hc | hc
      · exact ih (u / 10) (by omega) c hc
      · simp at hc; omega
theorem dec_ne (u : Nat) : dec u ≠ [] := by
  by_cases h : u < 10
  · rw [dec_small h]; simp
  · rw [dec_big h]; simp
theorem dec_head (u : Nat) (h0 : u ≠ 0) : (dec u).head? ≠ some 48 := by
  induction u using Nat.strongRecOn with
  | _ u ih =>
    by_cases h : u < 10
    · rw [dec_small h]; simp; omega
    · rw [dec_big h]
      have h1 := ih (u / 10) (by omega) (by omega)
      have h2 := dec_ne (u / 10)
      cases hd : dec (u / 10) with
      | nil => exact absurd hd h2
      | cons a t => rw [hd] at h1; simpa using h1
theorem dec_len (u n : Nat) (h : u < 10 ^ n) (hn : 0 < n) : (dec u).length ≤ n := by
  induction n generalizing u with
  | zero => omega
  | succ n ih =>
    by_cases h1 : u < 10
    · rw [dec_small h1]; simp
    · rw [dec_big h1, List.length_append]
      have hn0 : 0 < n := by
        rcases Nat.eq_zero_or_pos n with rfl | hp
        · simp at h; omega
        · exact hp
      have := ih (u / 10) (by rw [Nat.pow_succ] at h; omega) hn0
      simp; omega
theorem val_pos {l : List Nat} (a : Nat) (ha : 0 < a) : 0 < val a l := by
  induction l generalizing a with
  | nil => exact ha
  | cons c l ih => exact ih (10 * a + (c - 48)) (by omega)
theorem dec_val : ∀ (n : Nat) (l : List Nat), l.length = n → l ≠ [] → Digits l → (l.head? ≠ some 48 ∨ l.length = 1) → dec (val 0 l) = l
  | 0, l, hn, hne, _, _ => absurd (List.eq_nil_of_length_eq_zero hn) hne
  | n + 1, l, hn, hne, hd, hh => by
    have hl := List.dropLast_concat_getLast hne
    generalize l.dropLast = m at hl
    generalize l.getLast hne = c at hl
    subst hl
    have hc := hd c (by simp)
    rw [val_app]
    cases hm : m with
    | nil => subst hm; rw [dec_small (by simp [val]; omega)]; simp [val]; omega
    | cons b t =>
      have hb := hd b (by simp [hm])
      have h48 : b ≠ 48 := by
        rcases hh with hh | hh
        · rw [hm] at hh; simpa using hh
        · rw [hm] at hh; simp at hh
      have ih := dec_val n m (by simpa using hn) (by rw [hm]; simp) (fun x hx => hd x (by simp [hx])) (Or.inl (by rw [hm]; simpa using h48))
      have hp : 0 < val 0 m := by rw [hm]; exact val_pos (l := t) (10 * 0 + (b - 48)) (by omega)
      rw [← hm]
      show dec (10 * val 0 m + (c - 48)) = m ++ [c]
      rw [dec_big (by omega)]
      have e1 : (10 * val 0 m + (c - 48)) / 10 = val 0 m := by omega
      have e2 : 48 + (10 * val 0 m + (c - 48)) % 10 = c := by omega
      rw [e1, e2, ih]
/-- a text has a number just if that number's text it is -/
theorem intN_some {l : List Nat} {v : Int} (h : intN l = some v) : -9223372036854775808 ≤ v ∧ v ≤ 9223372036854775807 ∧ showN v = l ∧ l.length ≤ 20 := by
  unfold intN at h
  split at h
  · rename_i hb
    split at h
    · cases h
    · rename_i hc
      split at h
      · rename_i hd
        split at h
        · cases h
        · rename_i hv
          injection h with h
          subst h
          have h1 : l.tail ≠ [] := fun e => hc (Or.inl e)
          have h2 : ¬ 19 < l.tail.length := fun e => hc (Or.inr (Or.inl e))
          have h3 : l.tail.head? ≠ some 48 := fun e => hc (Or.inr (Or.inr e))
          have hdv := dec_val _ l.tail rfl h1 hd (Or.inl h3)
          have hl : l = 45 :: l.tail := by
            cases l with
            | nil => simp at hb
            | cons a t => simp at hb; simp [hb]
          have hp : 0 < val 0 l.tail := by
            rcases Nat.eq_zero_or_pos (val 0 l.tail) with h0 | h0
            · rw [h0] at hdv; rw [← hdv, dec_small (by omega)] at h3; simp at h3
            · exact h0
          refine ⟨by omega, by omega, ?_, ?_⟩
          · unfold showN
            rw [if_pos (by omega)]
            have : (-(val 0 l.tail : Int)).natAbs = val 0 l.tail := by omega
            rw [this, hdv, ← hl]
          · have e := congrArg List.length hl
            rw [List.length_cons] at e
            omega
      · cases h
  · rename_i hb
    split at h
    · cases h
    · rename_i hc
      split at h
      · rename_i hd
        split at h
        · cases h
        · rename_i hv
          injection h with h
          subst h
          have h1 : l ≠ [] := fun e => hc (Or.inl e)
          have h2 : ¬ 19 < l.length := fun e => hc (Or.inr (Or.inl e))
          have h3 : l.head? ≠ some 48 ∨ l.length = 1 := by
            by_cases e : l.head? = some 48
            · right
              have : ¬ 1 < l.length := fun e' => hc (Or.inr (Or.inr ⟨e, e'⟩))
              have : l.length ≠ 0 := fun e' => h1 (List.eq_nil_of_length_eq_zero e')
              omega
            · exact Or.inl e
          have hdv := dec_val _ l rfl h1 hd h3
          refine ⟨by omega, by omega, ?_, by omega⟩
          unfold showN
          rw [if_neg (by omega)]
          simp [hdv]
      · cases h
theorem intN_show {v : Int} (h1 : -9223372036854775808 ≤ v) (h2 : v ≤ 9223372036854775807) : intN (showN v) = some v := by
  unfold showN
  split
  · rename_i hneg
    obtain ⟨u, rfl⟩ : ∃ u : Nat, v = -(u : Int) := ⟨v.natAbs, by omega⟩
    have e : (-(u : Int)).natAbs = u := by omega
    rw [e]
    have hu : u ≠ 0 := by omega
    have hlen : (dec u).length ≤ 19 := dec_len u 19 (by omega) (by omega)
    unfold intN
    rw [if_pos (show (45 :: dec u).head? = some 45 from rfl)]
    have hc : ¬ ((45 :: dec u).tail = [] ∨ 19 < (45 :: dec u).tail.length ∨ (45 :: dec u).tail.head? = some 48) := by
      rw [List.tail_cons]
      intro hx
      rcases hx with hx | hx | hx
      · exact dec_ne u hx
      · omega
      · exact dec_head u hu hx
    rw [if_neg hc, if_pos (show Digits (45 :: dec u).tail from dec_digits u), if_neg (show ¬ 9223372036854775808 < val 0 (45 :: dec u).tail by rw [List.tail_cons, val_dec]; omega), List.tail_cons, val_dec]
  · rename_i hneg
    obtain ⟨u, rfl⟩ : ∃ u : Nat, v = (u : Int) := ⟨v.toNat, by omega⟩
    rw [Int.toNat_natCast]
    have hlen : (dec u).length ≤ 19 := dec_len u 19 (by omega) (by omega)
    have hne := dec_ne u
    have hdg := dec_digits u
    unfold intN
    have hh : (dec u).head? ≠ some 45 := by
      cases hd : dec u with
      | nil => simp
      | cons a t =>
        have := hdg a (by rw [hd]; simp)
        simp; omega
    rw [if_neg hh]
    have hc : ¬ (dec u = [] ∨ 19 < (dec u).length ∨ ((dec u).head? = some 48 ∧ 1 < (dec u).length)) := by
      intro hx
      rcases hx with hx | hx | ⟨hx, hy⟩
      · exact hne hx
      · omega
      · rcases Nat.eq_zero_or_pos u with h0 | h0
        · subst h0; rw [dec_small (by omega)] at hy; simp at hy
        · exact dec_head u (by omega) hx
    rw [if_neg hc, if_pos hdg, val_dec, if_neg (by omega)]
/-- the library's words for the same -/
theorem dec_lib (u : Nat) : (Lib.decDigits u).map UInt8.toNat = dec u := by
  induction u using Nat.strongRecOn with
  | _ u ih =>
    rw [Lib.decDigits, dec]
    by_cases h : u < 10
    · rw [dif_pos h, dif_pos h]
      simp; omega
    · rw [dif_neg h, dif_neg h, List.map_append, ih (u / 10) (by omega)]
      simp; omega
theorem show_lib (n : Int) : (Lib.itoa n).map UInt8.toNat = showN n := by
  unfold Lib.itoa showN
  split
  · rw [List.map_cons, dec_lib]; rfl
  · exact dec_lib _
theorem show_txt (n : Int) : (⟨(Lib.itoa n).toArray⟩ : ByteArray) = txt (showN n) := by
  apply bs_inj
  rw [bs_txt]
  · rw [← show_lib]; simp [bs]
  · intro c hc
    rw [← show_lib, List.mem_map] at hc
    obtain ⟨b, _, rfl⟩ := hc
    exact b.toNat_lt
end Go.Proofs.YtidkbodmiegbkaaGreatDoor
namespace Go.Proofs.YtidkbodmiegbkaaGreatDoor
set_option linter.unusedSimpArgs false
set_option linter.unusedVariables false
open Go.RowKit
theorem var_keep {P : Program} {w w' : World} {n : String} {cs : Array Value} (h : w.var? P n = some cs) (hb : Below w.heap.size w w') : w'.var? P n = some cs := by
  unfold World.var? at h ⊢
  cases hg : P.globalNamed n with
  | none => rw [hg] at h; simp at h
  | some g =>
    rw [hg] at h
    simp only [Option.bind_some] at h ⊢
    have hlt : g < w.heap.size := by
      rcases Nat.lt_or_ge g w.heap.size with hlt | hge
      · exact hlt
      · rw [Array.getElem?_eq_none hge] at h; cases h
    rw [hb.block g hlt]
    exact h
theorem below_grow (w : World) (k : Nat) (os : Array Obj) : Below w.heap.size w (Sort.grow (w.drewN k) os) :=
  ⟨rfl, rfl, rfl, by show w.heap.size ≤ (w.heap ++ os).size; simp, fun g hg => by
    show (w.heap ++ os)[g]? = w.heap[g]?
    rw [Array.getElem?_append_left hg]⟩
/-- the library's table -/
def Pow (w : World) : Prop := Lib.TabIs Tryz.prog w "internal/strconv.uint64pow10" .u64 Lib.pow10Tab
theorem Pow.below {w w' : World} (h : Pow w) (hb : Below w.heap.size w w') : Pow w' := var_keep h hb
theorem show_any (n : Int) (h0 : -9223372036854775808 ≤ n) (h1 : n ≤ 9223372036854775807) (w : World) (hv : Pow w) : Calls Tryz.prog 82 #[.int .i64 n] w fun e w' => e = .returned (.string (txt (showN n))) ∧ Below w.heap.size w w' := by
  have F := Lib.hid (Tryz.strconv_FormatInt_10 n h0 h1 w hv)
  rw [show_txt] at F
  clear hv
  go_enter Tryz.func82, Tryz.ntmps82
  go_wp2_with (go_at_call 92; refine F.out.mono ?_; rintro e w1 ⟨rfl, k, os, rfl⟩)
  go_ret
  exact ⟨rfl, below_grow _ _ _⟩
end Go.Proofs.YtidkbodmiegbkaaGreatDoor
namespace Go.Proofs.YtidkbodmiegbkaaGreatDoor
set_option linter.unusedSimpArgs false
set_option linter.unusedVariables false
open Go.RowKit
/-- behind a growth of another block a row stays -/
theorem Own1.apart {α : Type} {w w' : World} {base size : Nat} {e : TypeId} {R : List Value → α → Prop} {v : Value} {l : List α} {b : Option Nat} (h : Own1 w base e size R v l) (hg : w.grownBy w' b) (hne : ∀ g, v.ownBlock = some g → some g ≠ b) : Own1 w' base e size R v l := by
  obtain ⟨xs, ⟨h1, h2⟩, h3⟩ := h
  refine ⟨xs, ⟨h1, ?_⟩, h3⟩
  rcases h2 with h2 | ⟨g, cap, cur, r1, r2, r3, r4⟩
  · exact .inl h2
  · refine .inr ⟨g, cap, cur, r1, r2, ?_, r4⟩
    have hlt : g < w.heap.size := by
      rcases Nat.lt_or_ge g w.heap.size with hlt | hge
      · exact hlt
      · rw [Array.getElem?_eq_none hge] at r3; cases r3
    rw [hg.block g hlt (hne g (by rw [r1]; rfl))]
    exact r3
/-- rows by number: those that live lie in blocks that differ -/
structure LiveRows {α : Type} (w : World) (base : Nat) (e : TypeId) (size : Nat) (R : List Value → α → Prop) (v : Nat → Value) (c : Nat → List α) (lv : Nat → Bool) : Prop where
  own : ∀ k, lv k = true → Own1 w base e size R (v k) (c k)
  blk : ∀ k, lv k = true → ∃ g, (v k).ownBlock = some g
  far : ∀ k k', lv k = true → lv k' = true → k ≠ k' → (v k).ownBlock ≠ (v k').ownBlock
section
variable {α : Type} {w w' : World} {base size : Nat} {e : TypeId} {R : List Value → α → Prop} {v v' : Nat → Value} {c : Nat → List α} {lv lv' : Nat → Bool}
/-- a row more, made new -/
theorem LiveRows.new (h : LiveRows w base e size R v c lv) (k0 : Nat) (o : Obj) (hown : Own1 (w.alloc o) base e size R (v' k0) (c k0)) (hb : (v' k0).ownBlock = some w.heap.size)
    (hlv : ∀ k, lv' k = true → k = k0 ∨ lv k = true) (hv : ∀ k, k ≠ k0 → v' k = v k) : LiveRows (w.alloc o) base e size R v' c lv' := by
  have old : ∀ k, lv' k = true → k ≠ k0 → lv k = true := fun k hk hne => (hlv k hk).resolve_left hne
  have lt : ∀ k g, lv k = true → (v k).ownBlock = some g → g < w.heap.size := fun k g hk hg => ((h.own k hk).block g hg).2
  refine ⟨fun k hk => ?_, fun k hk => ?_, fun k k' hk hk' hne => ?_⟩
  · by_cases e : k = k0
    · subst e; exact hown
    · rw [hv k e]; exact (h.own k (old k hk e)).alloc o
  · by_cases e : k = k0
    · subst e; exact ⟨_, hb⟩
    · rw [hv k e]; exact h.blk k (old k hk e)
  · by_cases e : k = k0
    · subst e
      have e' : k' ≠ k := fun e' => hne e'.symm
      rw [hb, hv k' e']
      intro he
      have := lt k' _ (old k' hk' e') he.symm
      omega
    · by_cases e' : k' = k0
      · subst e'
        rw [hb, hv k e]
        intro he
        have := lt k _ (old k hk e) he
        omega
      · rw [hv k e, hv k' e']
        exact h.far k k' (old k hk e) (old k' hk' e') hne
/-- a row grown (number kt, which lives no longer) into number k0 -/
theorem LiveRows.app (h : LiveRows w base e size R v c lv) (kt k0 : Nat) (hkt : lv kt = true) (hown : Own1 w' base e size R (v' k0) (c k0)) (hg : w.grownBy w' (v kt).ownBlock)
    (hb : (v' k0).ownBlock = (v kt).ownBlock ∨ (v' k0).ownBlock = some w.heap.size)
    (hlv : ∀ k, lv' k = true → k = k0 ∨ (lv k = true ∧ k ≠ kt)) (hv : ∀ k, k ≠ k0 → v' k = v k) : LiveRows w' base e size R v' c lv' := by
  have old : ∀ k, lv' k = true → k ≠ k0 → lv k = true ∧ k ≠ kt := fun k hk hne => (hlv k hk).resolve_left hne
  have lt : ∀ k g, lv k = true → (v k).ownBlock = some g → g < w.heap.size := fun k g hk hg => ((h.own k hk).block g hg).2
  have key : ∀ k, lv' k = true → k ≠ k0 → (v' k0).ownBlock ≠ (v k).ownBlock := fun k hk hne he => by
    obtain ⟨h1, h2⟩ := old k hk hne
    rcases hb with hb | hb
    · rw [hb] at he
      exact h.far kt k hkt h1 (fun e => h2 e.symm) he
    · rw [hb] at he
      have := lt k _ h1 he.symm
      omega
  refine ⟨fun k hk => ?_, fun k hk => ?_, fun k k' hk hk' hne => ?_⟩
  · by_cases e : k = k0
    · subst e; exact hown
    · rw [hv k e]
      obtain ⟨h1, h2⟩ := old k hk e
      exact (h.own k h1).apart hg (fun g hgk he => h.far k kt h1 hkt h2 (by rw [hgk, he]))
  · by_cases e : k = k0
    · subst e
      obtain ⟨g, hg'⟩ := h.blk kt hkt
      rcases hb with hb | hb
      · exact ⟨g, by rw [hb, hg']⟩
      · exact ⟨_, hb⟩
    · rw [hv k e]; exact h.blk k (old k hk e).1
  · by_cases e : k = k0
    · subst e
      have e' : k' ≠ k := fun e' => hne e'.symm
      rw [hv k' e']
      exact key k' hk' e'
    · by_cases e' : k' = k0
      · subst e'
        rw [hv k e]
        exact (key k hk e).symm
      · rw [hv k e, hv k' e']
        exact h.far k k' (old k hk e).1 (old k' hk' e').1 hne
/-- nothing but another world in which these rows stay -/
theorem LiveRows.less (h : LiveRows w base e size R v c lv) (hlv : ∀ k, lv' k = true → lv k = true) (hv : ∀ k, lv' k = true → v' k = v k) : LiveRows w base e size R v' c lv' :=
  ⟨fun k hk => by rw [hv k hk]; exact h.own k (hlv k hk), fun k hk => by rw [hv k hk]; exact h.blk k (hlv k hk), fun k k' hk hk' hne => by rw [hv k hk, hv k' hk']; exact h.far k k' (hlv k hk) (hlv k' hk') hne⟩
end
section
variable {P : Program} {α : Type}
/-- an append that comes up in a region that draws -/
theorem wpOp_append_list {ops : Array Oper} {k : Nat} {o : Oper} {a : Act} {K : Act → World → Prop} {Q : Exit → Act → World → Prop} {w : World} (hk : ops[k]? = some o) (hgd : o.guard = none) (s x : Operand) (t : TypeId)
    (ho : o.op = .call { callee := .builtin .append, args := #[s, x], argTypes := #[t, t] })
    (base B : Nat) (e : TypeId) (i : TypeInfo) (z : Value) (size bytes : Nat) (ht : P.underlying t = some (.slice e)) (hi : P.info? e = some i) (hz : i.zero = some z)
    (hsize : i.size = size) (hby : i.bytes = bytes) (hzs : z.cells.size = size) (hsz : 0 < size) {R : List Value → α → Prop} {l m : List α}
    (v : Value) (hs : a.eval s = v) (hown : Own1 w base e size R v l) (A : Option Addr) (n c : Nat) (hx : a.eval x = .slice A n c) (hsrc : SlR w B size R (.slice A n c) m)
    (N : Nat) (hN : N = l.length + n) (h1 : ∀ x y, R x y → ∀ u ∈ x, u.oneCell' = true) (h63 : l.length + n ≤ maxLen) (hbytes : (l.length + n) * bytes ≤ 140737488355328) (hbase : base ≤ w.heap.size)
    (h : ∀ (a' : Option Addr) (c' : Nat) w', Own1 w' base e size R (.slice a' N c') (l ++ m) → w.grownBy w' v.ownBlock → ((Value.slice a' N c').ownBlock = v.ownBlock ∨ (Value.slice a' N c').ownBlock = some w.heap.size) → K (a.put o.dst (.slice a' N c')) w') : wpOp P ops Q k K a w := by
  obtain ⟨v', w', hrun, h2, h3, h4⟩ := run_append_list (P := P) w base B t o.type e i z size bytes ht hi hz hsize hby hzs hsz v hown A n c hsrc h1 h63 hbytes hbase
  unfold wpOp
  simp only [hk]
  rw [if_pos (by simp [Region.wanted, hgd])]
  left
  unfold Oper.wp execOp
  simp only [ho, resolve, invoke, builtin, Sem.run_bind, Sem.run_pure, Result.andThen_ok, List.map_toArray, List.map_cons, List.map_nil, hs, hx, hrun]
  obtain ⟨a', c', rfl⟩ := h2.form
  have e : (l ++ m).length = N := by rw [hN, List.length_append, hsrc.len]
  rw [e] at h2 h4 ⊢
  exact h a' c' w' h2 h3 h4
end
/-- an operation without a guard -/
theorem wpOp_plain {P : Program} {ops : Array Oper} {k : Nat} {o : Oper} {a : Act} {K : Act → World → Prop} {Q : Exit → Act → World → Prop} {w : World} (hk : ops[k]? = some o) (hgd : o.guard = none) (h : o.wp P a w K Q) : wpOp P ops Q k K a w := by
  unfold wpOp
  simp only [hk]
  rw [if_pos (by simp [Region.wanted, hgd])]
  exact .inl h
end Go.Proofs.YtidkbodmiegbkaaGreatDoor
namespace Go.Proofs.YtidkbodmiegbkaaGreatDoor
set_option linter.unusedSimpArgs false
set_option linter.unusedVariables false
open Go.RowKit
/-- a builder in block b that holds the bytes l -/
def BuiltSt (w : World) (B b : Nat) (l : List Nat) : Prop :=
  B ≤ b ∧ ∃ p v, (p = .pointer none ∨ p = .pointer (some ⟨b, 0, none⟩)) ∧ Blk w b 114 #[p, v] ∧ Own1 w B 5 1 IsByte v l
/-- blocks of other types, but for b, stay -/
def KeptBut (b : Nat) (w w' : World) : Prop := ∀ k t cs, Blk w k t cs → t ≠ 5 → k ≠ b → Blk w' k t cs
theorem KeptBut.refl (b : Nat) (w : World) : KeptBut b w w := fun _ _ _ h _ _ => h
theorem KeptBut.trans {b : Nat} {w w' w'' : World} (h : KeptBut b w w') (k : KeptBut b w' w'') : KeptBut b w w'' := fun x t cs hb ht hx => k x t cs (h x t cs hb ht hx) ht hx
theorem own_ne {w : World} {B b size : Nat} {e T : TypeId} {α : Type} {R : List Value → α → Prop} {v : Value} {l : List α} {cs : Array Value} (h : Own1 w B e size R v l) (hb : Blk w b T cs) (hT : T ≠ e) : v.ownBlock ≠ some b := by
  obtain ⟨xs, h1, _⟩ := h
  rcases h1.2 with ⟨rfl, _⟩ | ⟨g, cap, cur, rfl, _, hg, _⟩
  · simp [Value.ownBlock]
  · intro h
    simp only [Value.ownBlock, Option.some.injEq] at h
    subst h
    unfold Blk at hb
    rw [hg] at hb
    simp only [Option.some.injEq, Obj.cells.injEq] at hb
    exact hT hb.2.1.symm
theorem Own1.setOther {α : Type} {w : World} {base size : Nat} {e : TypeId} {R : List Value → α → Prop} {v : Value} {l : List α} (h : Own1 w base e size R v l) {p : Addr} (hp : v.ownBlock ≠ some p.block) (u : Value) : Own1 (w.setCell p u) base e size R v l := by
  obtain ⟨xs, h1, h2⟩ := h
  exact ⟨xs, ownsRow_setCell_other h1 hp u, h2⟩
theorem KeptBut.of_set {b : Nat} {w : World} (i : Nat) (u : Value) : KeptBut b w (w.setCell ⟨b, i, none⟩ u) := fun _ _ _ h _ hk => h.far hk u
theorem KeptBut.of_alloc (b : Nat) (w : World) (o : Obj) : KeptBut b w (w.alloc o) := fun _ _ _ h _ _ => h.alloc o
theorem KeptBut.of_grown {b : Nat} {w w' : World} {B size : Nat} {α : Type} {R : List Value → α → Prop} {v : Value} {l : List α} (h : Own1 w B 5 size R v l) (hg : w.grownBy w' v.ownBlock) : KeptBut b w w' := fun _ _ _ hb ht _ => hb.grown hg (fun e => own_ne h hb ht e.symm)
theorem BuiltSt.new (w : World) : BuiltSt (w.alloc (.cells #[.pointer none, .slice none 0 0] 114)) w.heap.size w.heap.size [] :=
  ⟨Nat.le_refl _, _, _, .inl rfl, Blk.new w _ _, ⟨[], World.ownsRow_nil _ _ _ _, FlatR.nil_⟩⟩
theorem BuiltSt.keep {w w' : World} {B b : Nat} {l : List Nat} (h : BuiltSt w B b l) (hb : Below w.heap.size w w') : BuiltSt w' B b l := by
  obtain ⟨h1, p, v, h2, h3, h4⟩ := h
  exact ⟨h1, p, v, h2, h3.below hb h3.lt, h4.below hb (Nat.le_refl _)⟩
theorem sizeBuilder : (Tryz.prog.info? 114).map (·.size) = some 2 := by kernel_rfl
theorem info_u8 : (Tryz.prog.info? 5).map (fun i => (i.zero, i.size, i.bytes)) = some (some (.int .u8 0), 1, 1) := by kernel_rfl
theorem liesBuilder : liesAt Tryz.prog Tryz.prog.depth 114 (2 / Tryz.prog.cellsOf 114) 0 114 1 = true := by kernel_rfl
theorem blk_shape {w : World} {b : Nat} {t : TypeId} {x y : Value} (h : Blk w b t #[x, y]) : w.shape? b = some (t, 2) := by
  unfold Blk at h
  simp [World.shape?, h]
/-- 'append(b, s...)' onto a byte row of the call's own -/
theorem wpList_append_text' {P : Program} {ops : Array Oper} {rest : List Oper} {o : Oper} {a : Act} {Q : Exit → Act → World → Prop} {w : World} (hgd : o.guard = none) (sl x : Operand) (t u : TypeId)
    (ho : o.op = .call { callee := .builtin .append, args := #[sl, x], argTypes := #[t, u] })
    (base : Nat) (e : TypeId) (i : TypeInfo) (ht : P.underlying t = some (.slice e)) (hu : P.underlying u = some .string) (hi : P.info? e = some i) (hz : i.zero = some (.int .u8 0))
    (hsize : i.size = 1) (hby : i.bytes = 1)
    (v : Value) (l : List Nat) (hs : a.eval sl = v) (hown : Own1 w base e 1 IsByte v l) (s : ByteArray) (hx : a.eval x = .string s)
    (h63 : l.length + s.size ≤ maxLen) (hbytes : l.length + s.size ≤ 140737488355328) (hbase : base ≤ w.heap.size)
    (h : ∀ (a' : Option Addr) (n' c' : Nat) w', Own1 w' base e 1 IsByte (.slice a' n' c') (l ++ bs s) → w.grownBy w' v.ownBlock → wpList P ops Q rest (a.put o.dst (.slice a' n' c')) w') : wpList P ops Q (o :: rest) a w := by
  obtain ⟨xs, h1, h2⟩ := hown
  obtain ⟨rfl, hb⟩ := byteRow h2
  refine Lib.wpList_append_own_string w hgd sl x t u ho base e i ht hu hi hz hsize hby v l.length _ hs h1 s hx h63 hbytes hbase (fun v' w' g1 g2 _ => ?_)
  rw [strCells_eq, ← List.map_append] at g1
  have hl : (l ++ bs s).length = l.length + s.size := by rw [List.length_append, bs_len]
  have hown : Own1 w' base e 1 IsByte v' (l ++ bs s) := ⟨_, by rw [hl]; exact g1, byteRow_mk (bytes_app hb (bs_bytes s))⟩
  obtain ⟨a', c', rfl⟩ := hown.form
  exact h _ _ _ w' hown g2
set_option maxRecDepth 100000 in
theorem copy_check {w : World} {B b : Nat} {l : List Nat} (h : BuiltSt w B b l) :
    Calls Tryz.prog 81 #[.pointer (some ⟨b, 0, none⟩)] w fun e w' => e = .returned (.tuple #[]) ∧ (BuiltSt w' B b l ∧ Below B w w' ∧ KeptBut b w w') := by
  obtain ⟨hB, p, v, hp, hbk, hown⟩ := h
  obtain ⟨j, hj, hjs⟩ := Option.map_eq_some_iff.1 sizeBuilder
  have hsh := blk_shape hbk
  have hne := own_ne hown hbk (by decide)
  have h0 := hbk.cell (i := 0) rfl
  have f0 := hbk.frozen 0
  have HB := Lib.hid (And.intro hbk hown)
  clear hbk hown
  rcases hp with rfl | rfl
  · have hto := Lib.hid (Lib.run_to_unsafe (P := Tryz.prog) w ⟨b, 0, none⟩ Tryz.underlying111 Tryz.underlying146 hj (by rw [hjs]; decide) hsh (Nat.zero_lt_succ 1))
    have hfrom := Lib.hid (Lib.run_from_unsafe (P := Tryz.prog) w ⟨b, 0, none⟩ Tryz.underlying146 Tryz.underlying111 hj hsh liesBuilder)
    clear hsh hj
    go_enter Tryz.func81, Tryz.ntmps81
    go_wp2
    rw [hto.out]
    simp only [Result.andThen]
    rw [Oper.upon_value]
    go_wp2
    rw [run_callFunc_extern Tryz.func91 (by kernel_rfl) (by kernel_rfl) (by kernel_rfl) (e := Extern.AbiNoEscape.same) (by kernel_rfl)]
    rw [Lib.run_noEscape]
    simp only [Result.andThen]
    rw [Oper.upon_value]
    go_wp2
    rw [hfrom.out]
    simp only [Result.andThen]
    rw [Oper.upon_value]
    go_wp2
    go_end0
    exact ⟨rfl, ⟨hB, _, _, .inr rfl, HB.out.1.set_ 0 _, HB.out.2.setOther hne _⟩, (Below.refl B w).setCell (p := ⟨b, 0, none⟩) hB _, KeptBut.of_set 0 _⟩
  · have hnn := Lib.run_neq_ptr_same (P := Tryz.prog) w ⟨b, 0, none⟩ Tryz.underlying111 hj
    clear hsh hj
    go_enter Tryz.func81, Tryz.ntmps81
    go_wp2
    go_end0
    exact ⟨rfl, ⟨hB, _, _, .inr rfl, HB.out.1, HB.out.2⟩, Below.refl _ _, KeptBut.refl _ _⟩
set_option maxRecDepth 100000 in
set_option maxHeartbeats 2000000 in
theorem write_byte {w : World} {B b : Nat} {l : List Nat} (c : Nat) (hc : c < 256) (h : BuiltSt w B b l) (hlen : l.length + 1 ≤ 140737488355328) (hBw : B ≤ w.heap.size) :
    Calls Tryz.prog 63 #[.pointer (some ⟨b, 0, none⟩), .int .u8 (c : Int)] w fun e w' => e = .returned .nilIface ∧ (BuiltSt w' B b (l ++ [c]) ∧ Below B w w' ∧ KeptBut b w w') := by
  obtain ⟨j, hi, hz, hsz, hby⟩ := info_parts info_u8
  have I := Lib.hid (And.intro hi (And.intro hz (And.intro hsz hby)))
  have CC := Lib.hid (copy_check h)
  have hBb := h.1
  clear hi hz hsz hby h
  go_enter Tryz.func63, Tryz.ntmps63
  go_wp2_with (first
    | (go_at_call 81
       refine CC.out.mono ?_
       rintro e w1 ⟨rfl, hst, hb1, hk1⟩
       obtain ⟨_, p, v, hp, hbk, hown⟩ := hst
       obtain ⟨va, vc, rfl⟩ := hown.form
       have c1 := hbk.cell (i := 1) rfl
       have hlt := hbk.lt
       have hz1 := hb1.size
       have hBz : B ≤ w1.heap.size := Nat.le_trans hBw hz1
       have HB := Lib.hid (And.intro hp (And.intro hbk hown))
       have H1 := Lib.hid (And.intro hb1 hk1)
       clear hp hbk hown hb1 hk1 CC)
    | (at_builtin
       go_must (refine wpList_append_list rfl (.tmp 11) (.tmp 13) _ rfl B _ 5 j _ 1 1 Tryz.underlying112 I.out.1 I.out.2.1 I.out.2.2.1 I.out.2.2.2 rfl (by omega) (R := IsByte) (l := l) (m := [c]) (.slice va l.length vc) rfl (by exact HB.out.2.2.alloc _) (some ⟨w1.heap.size, 0, none⟩) 1 1 rfl (by exact SlR.new1 rfl rfl ⟨rfl, hc⟩) (l.length + 1) rfl IsByte.one (by unfold maxLen; omega) (by omega) (by simp; omega) ?_)
       intro xa xc w2 hown hgr
       have hb2 : Blk w2 b 114 #[p, .slice va l.length vc] := (HB.out.2.1.alloc _).grown hgr (fun e => own_ne HB.out.2.2 HB.out.2.1 (by decide) e.symm)
       have d1 := hb2.cell (i := 1) rfl
       have f1 := hb2.frozen 1
       have H2 := Lib.hid (And.intro hb2 (And.intro hown hgr))
       clear hb2 hown hgr c1 hlt))
  go_ret
  obtain ⟨hp, hbk, hown0⟩ := HB.out
  obtain ⟨hb2, hown, hgr⟩ := H2.out
  exact ⟨rfl, ⟨hBb, _, _, hp, hb2.set_ 1 _, hown.setOther (own_ne hown hb2 (by decide)) _⟩, ((H1.out.1.alloc hBz _).trans (below_of_grown (hown0.alloc _) (by simp; omega) hgr)).setCell (p := ⟨b, 1, none⟩) hBb _, ((H1.out.2.trans (KeptBut.of_alloc _ _ _)).trans (KeptBut.of_grown (hown0.alloc _) hgr)).trans (KeptBut.of_set 1 _)⟩
set_option maxRecDepth 100000 in
set_option maxHeartbeats 2000000 in
theorem write_text {w : World} {B b : Nat} {l : List Nat} (s : ByteArray) (h : BuiltSt w B b l) (hlen : l.length + s.size ≤ 140737488355328) (hBw : B ≤ w.heap.size) :
    Calls Tryz.prog 65 #[.pointer (some ⟨b, 0, none⟩), .string s] w fun e w' => e = .returned (.tuple #[.int .i64 s.size, .nilIface]) ∧ (BuiltSt w' B b (l ++ bs s) ∧ Below B w w' ∧ KeptBut b w w') := by
  obtain ⟨j, hi, hz, hsz, hby⟩ := info_parts info_u8
  have I := Lib.hid (And.intro hi (And.intro hz (And.intro hsz hby)))
  have CC := Lib.hid (copy_check h)
  have hBb := h.1
  clear hi hz hsz hby h
  go_enter Tryz.func65, Tryz.ntmps65
  go_wp2_with (first
    | (go_at_call 81
       refine CC.out.mono ?_
       rintro e w1 ⟨rfl, hst, hb1, hk1⟩
       obtain ⟨_, p, v, hp, hbk, hown⟩ := hst
       obtain ⟨va, vc, rfl⟩ := hown.form
       have c1 := hbk.cell (i := 1) rfl
       have hlt := hbk.lt
       have hz1 := hb1.size
       have hBz : B ≤ w1.heap.size := Nat.le_trans hBw hz1
       have HB := Lib.hid (And.intro hp (And.intro hbk hown))
       have H1 := Lib.hid (And.intro hb1 hk1)
       clear hp hbk hown hb1 hk1 CC)
    | (at_builtin
       go_must (refine wpList_append_text' rfl (.tmp 12) (.tmp 13) _ _ rfl B 5 j Tryz.underlying112 Tryz.underlying9 I.out.1 I.out.2.1 I.out.2.2.1 I.out.2.2.2 (.slice va l.length vc) l rfl (by exact HB.out.2.2) s rfl (by unfold maxLen; omega) (by omega) (by omega) ?_)
       intro xa xn xc w2 hown hgr
       have hb2 : Blk w2 b 114 #[p, .slice va l.length vc] := HB.out.2.1.grown hgr (fun e => own_ne HB.out.2.2 HB.out.2.1 (by decide) e.symm)
       have d1 := hb2.cell (i := 1) rfl
       have f1 := hb2.frozen 1
       have H2 := Lib.hid (And.intro hb2 (And.intro hown hgr))
       clear hb2 hown hgr c1 hlt))
  go_ret2
  obtain ⟨hp, hbk, hown0⟩ := HB.out
  obtain ⟨hb2, hown, hgr⟩ := H2.out
  exact ⟨rfl, ⟨hBb, _, _, hp, hb2.set_ 1 _, hown.setOther (own_ne hown hb2 (by decide)) _⟩, (H1.out.1.trans (below_of_grown hown0 (by omega) hgr)).setCell (p := ⟨b, 1, none⟩) hBb _, (H1.out.2.trans (KeptBut.of_grown hown0 hgr)).trans (KeptBut.of_set 1 _)⟩
/-- the library's words for it -/
theorem BuiltSt.lib {w : World} {B b : Nat} {l : List Nat} (h : BuiltSt w B b l) : Lib.IsBuilderF 114 5 B b (Lib.byteCells (l.map UInt8.ofNat)) w := by
  obtain ⟨hB, p, v, hp, hbk, hown⟩ := h
  have hne := own_ne hown hbk (by decide)
  obtain ⟨xs, h1, h2⟩ := hown
  obtain ⟨rfl, hb⟩ := byteRow h2
  have he : Lib.byteCells (l.map UInt8.ofNat) = l.map (fun (n : Nat) => Value.int .u8 (n : Int)) := by
    unfold Lib.byteCells
    rw [List.map_map]
    apply List.map_congr_left
    intro n hn
    have := hb n hn
    simp [Nat.mod_eq_of_lt this]
  rw [he]
  have key : Lib.BuilderAtF 114 5 B b p (l.map (fun (n : Nat) => Value.int .u8 (n : Int))) w := ⟨hB, v, hbk, by rw [List.length_map]; exact World.ownsRowF_of h1, hne⟩
  rcases hp with rfl | rfl
  · exact .inl key
  · exact .inr key
theorem built_len {w : World} {B b : Nat} {l : List Nat} (h : BuiltSt w B b l) : Calls Tryz.prog 64 #[.pointer (some ⟨b, 0, none⟩)] w fun e w' => e = .returned (.int .i64 (l.length : Int)) ∧ w' = w := by
  obtain ⟨hB, p, v, hp, hbk, hown⟩ := h
  obtain ⟨va, vc, rfl⟩ := hown.form
  have c1 := hbk.cell (i := 1) rfl
  clear hbk hown hp
  go_enter Tryz.func64, Tryz.ntmps64
  go_wp2
  go_ret
  exact ⟨rfl, rfl⟩
theorem built_text {w : World} {B b : Nat} {l : List Nat} (h : BuiltSt w B b l) (hBw : B ≤ w.heap.size) : Calls Tryz.prog 67 #[.pointer (some ⟨b, 0, none⟩)] w fun e w' => e = .returned (.string (txt l)) ∧ Below B w w' :=
  (Go.Proofs.Tryz.Builder_String_any_k B b (l.map UInt8.ofNat) w h.lib hBw).mono fun _ _ ⟨h1, _, h2, _⟩ => ⟨h1, h2⟩
end Go.Proofs.YtidkbodmiegbkaaGreatDoor
namespace Go.Proofs.YtidkbodmiegbkaaGreatDoor
set_option linter.unusedSimpArgs false
set_option linter.unusedVariables false
open Go.RowKit
def hiddenN (n : Nat) : Bool := decide (n ≠ 10 ∧ (n < 32 ∨ 126 < n))
def digitN (n : Nat) : Nat := if 48 ≤ n ∧ n ≤ 57 then n - 48 else if 97 ≤ n ∧ n ≤ 102 then n - 97 + 10 else 16
/-- the form of a byte -/
def hexN (n : Nat) : Nat := if n < 10 then 48 + n else 87 + n
def formN (n : Nat) : List Nat := if n = 34 then [92, 34] else if n = 92 then [92, 92] else if n = 10 then [92, 110] else if 32 ≤ n ∧ n ≤ 126 then [n] else [92, 120, hexN (n / 16), hexN (n % 16)]
theorem hidden_any (n : Nat) (w : World) : Calls Tryz.prog 86 #[.int .u8 (n : Int)] w fun e w' => e = .returned (.bool (hiddenN n)) ∧ Quiet w w' := by
  by_cases h1 : n = 10
  · have hv : hiddenN n = false := by simp [hiddenN, h1]
    rw [hv]; clear hv
    subst h1
    go_enter Tryz.func86, Tryz.ntmps86
    go_wp2
    go_ret
    exact ⟨rfl, Quiet.refl _⟩
  · have hv : hiddenN n = (decide (n < 32) || decide (126 < n)) := by rw [Bool.eq_iff_iff]; simp [hiddenN, h1]
    rw [hv]; clear hv
    have h1' : ((n : Int) != 10) = true := by simp; omega
    by_cases h2 : n < 32
    · go_enter Tryz.func86, Tryz.ntmps86
      go_wp2
      go_ret
      exact ⟨by simp [h1', h2], Quiet.refl _⟩
    · have h2' : decide ((n : Int) < 32) = false := by simp; omega
      go_enter Tryz.func86, Tryz.ntmps86
      go_wp2
      go_ret
      exact ⟨by simp [h1', h2]; omega, Quiet.refl _⟩
theorem digit_any (n : Nat) (hn : n < 256) (w : World) : Calls Tryz.prog 85 #[.int .u8 (n : Int)] w fun e w' => e = .returned (.int .u8 (digitN n : Int)) ∧ Quiet w w' := by
  by_cases h1 : 48 ≤ n
  · by_cases h2 : n ≤ 57
    · have hv : (digitN n : Int) = (n : Int) - 48 := by simp [digitN, h1, h2]; omega
      rw [hv]; clear hv
      go_enter Tryz.func85, Tryz.ntmps85
      go_wp2
      go_ret
      exact ⟨rfl, Quiet.refl _⟩
    · by_cases h3 : 97 ≤ n
      · by_cases h4 : n ≤ 102
        · have hv : (digitN n : Int) = (n : Int) - 97 + 10 := by simp [digitN, h1, h2, h3, h4]; omega
          rw [hv]; clear hv
          go_enter Tryz.func85, Tryz.ntmps85
          go_wp2
          go_ret
          exact ⟨rfl, Quiet.refl _⟩
        · have hv : digitN n = 16 := by simp [digitN, h2, h4]
          rw [hv]; clear hv
          go_enter Tryz.func85, Tryz.ntmps85
          go_wp2
          go_ret
          exact ⟨rfl, Quiet.refl _⟩
      · have hv : digitN n = 16 := by simp [digitN, h2, h3]
        rw [hv]; clear hv
        go_enter Tryz.func85, Tryz.ntmps85
        go_wp2
        go_ret
        exact ⟨rfl, Quiet.refl _⟩
  · have hv : digitN n = 16 := by simp [digitN, h1]; omega
    rw [hv]; clear hv
    have h3 : ¬ 97 ≤ n := by omega
    go_enter Tryz.func85, Tryz.ntmps85
    go_wp2
    go_ret
    exact ⟨rfl, Quiet.refl _⟩
theorem hex_digit (k : Nat) (h : k < 16) : (⟨#[48, 49, 50, 51, 52, 53, 54, 55, 56, 57, 97, 98, 99, 100, 101, 102]⟩ : ByteArray)[k]'h = UInt8.ofNat (hexN k) := by
  have : ∀ k : Fin 16, (⟨#[48, 49, 50, 51, 52, 53, 54, 55, 56, 57, 97, 98, 99, 100, 101, 102]⟩ : ByteArray)[k.1]'k.2 = UInt8.ofNat (hexN k.1) := by decide
  exact this ⟨k, h⟩
theorem hexN_lt (k : Nat) (h : k < 16) : hexN k < 256 := by unfold hexN; split <;> omega
theorem index_hex (W : World) (t : TypeId) (ht : Tryz.prog.underlying t = some .string) (k : Nat) (h : k < 16) (ik : IntKind) (i : Int) (hi : i = (k : Int)) :
    (Instr.index t (.string ⟨#[48, 49, 50, 51, 52, 53, 54, 55, 56, 57, 97, 98, 99, 100, 101, 102]⟩) (.int ik i)).run Tryz.prog W = .ok (.int .u8 (hexN k : Int)) W := by
  subst hi
  rw [run_index_string W t _ ik _ ht, dif_pos ⟨Int.natCast_nonneg _, by show (k : Int) < ((16 : Nat) : Int); omega⟩]
  have e : ∀ hh, (⟨#[48, 49, 50, 51, 52, 53, 54, 55, 56, 57, 97, 98, 99, 100, 101, 102]⟩ : ByteArray)[(k : Int).toNat]'hh = UInt8.ofNat (hexN k) := by
    intro hh
    exact hex_digit k h
  rw [e]
  simp [Nat.mod_eq_of_lt (hexN_lt k h)]
end Go.Proofs.YtidkbodmiegbkaaGreatDoor
namespace Go.Proofs.YtidkbodmiegbkaaGreatDoor
set_option linter.unusedSimpArgs false
set_option linter.unusedVariables false
open Go.RowKit
/-- what is known of a place: its height, its loops (base, next) -/
structure Pl where
  known : Bool
  height : Int
  loops : List (Int × Int)
deriving DecidableEq
def Pl.none : Pl := ⟨false, 0, []⟩
def Pl.base (p : Pl) : Int := match p.loops.getLast? with | some x => x.1 | .none => 0
def Pl.next (p : Pl) : Int := match p.loops.getLast? with | some x => x.2 | .none => -1
/-- what holds of a place that is known -/
structure Pl.Good (p : Pl) (j : Nat) : Prop where
  b0 : 0 ≤ p.base
  bh : p.base ≤ p.height
  hj : p.height ≤ j
  few : p.loops.length ≤ j
  all : ∀ a ∈ p.loops, 0 ≤ a.1 ∧ a.1 ≤ p.base ∧ 0 ≤ a.2 ∧ a.2 ≤ j
  up : p.loops.Pairwise (fun a b => a.1 ≤ b.1)
theorem Pl.Good.more {p : Pl} {i j : Nat} (h : p.Good i) (hij : i ≤ j) : p.Good j :=
  ⟨h.b0, h.bh, by have := h.hj; omega, by have := h.few; omega, fun a ha => by have := h.all a ha; omega, h.up⟩
/-- with another height, from the base on -/
theorem Pl.Good.at_ {p : Pl} {i j : Nat} {h : Int} (g : p.Good i) (h1 : p.base ≤ h) (h2 : h ≤ j) (hij : i ≤ j) : (Pl.mk true h p.loops).Good j :=
  ⟨g.b0, h1, h2, by have := g.few; show p.loops.length ≤ j; omega, fun a ha => by have := g.all a ha; exact ⟨this.1, this.2.1, this.2.2.1, by omega⟩, g.up⟩
theorem Pl.Good.push {p : Pl} {i : Nat} (g : p.Good i) (h1 : 1 ≤ p.height - p.base) : (Pl.mk true (p.height - 1) (p.loops ++ [(p.height - 1, (i : Int) + 1)])).Good (i + 1) := by
  have hb : (Pl.mk true (p.height - 1) (p.loops ++ [(p.height - 1, (i : Int) + 1)])).base = p.height - 1 := by unfold Pl.base; simp
  have := g.b0
  have := g.hj
  refine ⟨by rw [hb]; omega, by rw [hb]; exact Int.le_refl _, by show p.height - 1 ≤ _; omega, by have := g.few; simp; omega, ?_, ?_⟩
  · intro a ha
    rw [hb]
    rw [List.mem_append, List.mem_singleton] at ha
    rcases ha with ha | rfl
    · have := g.all a ha; omega
    · simp; omega
  · show List.Pairwise _ (p.loops ++ [(p.height - 1, (i : Int) + 1)])
    rw [List.pairwise_append]
    refine ⟨g.up, by simp, ?_⟩
    intro a ha b hb
    rw [List.mem_singleton] at hb
    subst hb
    have := g.all a ha
    simp; omega
end Go.Proofs.YtidkbodmiegbkaaGreatDoor
namespace Go.Proofs.YtidkbodmiegbkaaGreatDoor
set_option linter.unusedSimpArgs false
set_option linter.unusedVariables false
open Go.RowKit
theorem Own1.type {α : Type} {W : World} {base size : Nat} {e : TypeId} {R : List Value → α → Prop} {v : Value} {l : List α} (h : Own1 W base e size R v l) {b : Nat} (hb : v.ownBlock = some b) : ∃ cs, Blk W b e cs := by
  obtain ⟨xs, ⟨h1, h2⟩, h3, h4⟩ := h
  rcases h2 with ⟨h2, h5⟩ | ⟨g, cap, cur, r1, r2, r3, r4, r5, r6, r7⟩
  · subst h2; cases hb
  · subst r1
    injection hb with hb
    subst hb
    exact ⟨cur, r3⟩
end Go.Proofs.YtidkbodmiegbkaaGreatDoor
namespace Go.Proofs.YtidkbodmiegbkaaGreatDoor
set_option linter.unusedSimpArgs false
set_option linter.unusedVariables false
def letterN (n : Nat) : Bool := decide ((65 ≤ n ∧ n ≤ 90) ∨ (97 ≤ n ∧ n ≤ 122))
def furtherN (n : Nat) : Bool := letterN n || decide ((48 ≤ n ∧ n ≤ 57) ∨ n = 95)
def rightN (l : List Nat) : Bool := match l with
  | [] => false
  | c :: t => decide ((c :: t).length ≤ 32) && letterN c && (c :: t).all furtherN
end Go.Proofs.YtidkbodmiegbkaaGreatDoor
namespace Go.Proofs.YtidkbodmiegbkaaGreatDoor
set_option linter.unusedSimpArgs false
set_option linter.unusedVariables false
/-- what stands behind a '\' -/
def esc : List Nat → Option (Nat × Nat) × Nat
  | [] => (none, 1)
  | d :: t => if d = 34 ∨ d = 92 then (some (d, 2), 2) else if d = 110 then (some (10, 2), 2) else if d ≠ 120 then (none, 1) else
    match t with
    | [] => (none, 2)
    | h :: t => if 15 < digitN h ∨ (hiddenN (16 * digitN h) = false ∧ hiddenN (16 * digitN h + 15) = false) then (none, 2) else
      match t with
      | [] => (none, 3)
      | l :: _ => if 15 < digitN l ∨ hiddenN (16 * digitN h + digitN l) = false then (none, 3) else (some (16 * digitN h + digitN l, 4), 4)
/-- one byte's form, read: the byte and how many bytes it takes, or how many are right -/
def one : List Nat → Option (Nat × Nat) × Nat
  | [] => (none, 0)
  | c :: t => if c = 92 then esc t else if c < 32 ∨ 126 < c then (none, 0) else (some (c, 1), 1)
/-- how many two lists begin with alike -/
def common : List Nat → List Nat → Nat
  | a :: l, b :: m => if a = b then common l m + 1 else 0
  | _, _ => 0
theorem hex_of_digit (n : Nat) (h : digitN n ≤ 15) : hexN (digitN n) = n := by
  unfold digitN at h ⊢
  unfold hexN
  split at h
  · rename_i h1
    rw [if_pos h1, if_pos (by omega)]; omega
  · rename_i h1
    split at h
    · rename_i h2
      rw [if_neg h1, if_pos h2, if_neg (by omega)]; omega
    · omega
theorem form_hidden {c : Nat} (h : hiddenN c = true) : formN c = [92, 120, hexN (c / 16), hexN (c % 16)] := by
  simp only [hiddenN, decide_eq_true_eq] at h
  unfold formN
  rw [if_neg (by omega), if_neg (by omega), if_neg (by omega), if_neg (by omega)]
theorem form_plain {c : Nat} (h1 : 32 ≤ c) (h2 : c ≤ 126) (h3 : c ≠ 34) (h4 : c ≠ 92) : formN c = [c] := by
  unfold formN
  rw [if_neg h3, if_neg h4, if_neg (by omega), if_pos ⟨h1, h2⟩]
/-- a byte's form, by its four kinds -/
theorem form_cases (c : Nat) : (c = 34 ∧ formN c = [92, 34]) ∨ (c = 92 ∧ formN c = [92, 92]) ∨ (c = 10 ∧ formN c = [92, 110]) ∨ (32 ≤ c ∧ c ≤ 126 ∧ c ≠ 34 ∧ c ≠ 92 ∧ formN c = [c]) ∨ (hiddenN c = true ∧ formN c = [92, 120, hexN (c / 16), hexN (c % 16)]) := by
  by_cases h1 : c = 34
  · subst h1; exact Or.inl ⟨rfl, rfl⟩
  by_cases h2 : c = 92
  · subst h2; exact Or.inr (Or.inl ⟨rfl, rfl⟩)
  by_cases h3 : c = 10
  · subst h3; exact Or.inr (Or.inr (Or.inl ⟨rfl, rfl⟩))
  by_cases h4 : 32 ≤ c ∧ c ≤ 126
  · exact Or.inr (Or.inr (Or.inr (Or.inl ⟨h4.1, h4.2, h1, h2, form_plain h4.1 h4.2 h1 h2⟩)))
  · have h : hiddenN c = true := by simp only [hiddenN, decide_eq_true_eq]; omega
    exact Or.inr (Or.inr (Or.inr (Or.inr ⟨h, form_hidden h⟩)))
theorem form_len (c : Nat) : 1 ≤ (formN c).length ∧ (formN c).length ≤ 4 := by
  rcases form_cases c with ⟨_, h⟩ | ⟨_, h⟩ | ⟨_, h⟩ | ⟨_, _, _, _, h⟩ | ⟨_, h⟩ <;> rw [h] <;> simp
end Go.Proofs.YtidkbodmiegbkaaGreatDoor
namespace Go.Proofs.YtidkbodmiegbkaaGreatDoor
set_option linter.unusedSimpArgs false
set_option linter.unusedVariables false
open Go.RowKit
theorem drop_bs {l : List Nat} {k c : Nat} (h : l[k]? = some c) : l.drop k = c :: l.drop (k + 1) := by
  have hk := (List.getElem?_eq_some_iff.1 h).1
  rw [List.drop_eq_getElem_cons hk, (List.getElem?_eq_some_iff.1 h).2]
/-- what escape answers of what stands behind the '\\' -/
def escV (l : List Nat) : Value := match esc l with
  | (some (c, n), _) => .tuple #[.int .u8 (c : Int), .int .i64 (n : Int), .bool true]
  | (none, n) => .tuple #[.int .u8 0, .int .i64 (n : Int), .bool false]
theorem bits_or (h l : Nat) (hh : h < 16) (hl : l < 16) : bits .or .u8 ((h : Int) * 16) (l : Int) = (h : Int) * 16 + (l : Int) := by
  have : ∀ h l : Fin 16, bits .or .u8 ((h.1 : Int) * 16) (l.1 : Int) = (h.1 : Int) * 16 + (l.1 : Int) := by decide +kernel
  exact this ⟨h, hh⟩ ⟨l, hl⟩
theorem hidden_at (i : Int) (n : Nat) (b : Bool) (hi : i = (n : Int)) (hb : hiddenN n = b) (w : World) : Calls Tryz.prog 86 #[.int .u8 i] w fun e w' => e = .returned (.bool b) ∧ Quiet w w' := by
  subst hi hb
  exact hidden_any n w
set_option maxHeartbeats 2000000 in
theorem escape_any (s : ByteArray) (b : Nat) (l : List Nat) (hl : bs s = b :: l) (hs : s.size ≤ maxLen) (w : World) : Calls Tryz.prog 75 #[.string s] w fun e w' => e = .returned (escV l) ∧ Quiet w w' := by
  unfold maxLen at hs
  have hsz : s.size = l.length + 1 := by rw [← bs_len, hl]; rfl
  have hby : Bytes l := fun n hn => bs_bytes s n (by rw [hl]; exact List.mem_cons_of_mem _ hn)
  match l, hl, hsz, hby with
  | [], hl, hsz, _ =>
    simp at hsz
    go_enter Tryz.func75, Tryz.ntmps75
    go_wp2_with fail
    go_ret3
    exact ⟨rfl, Quiet.refl _⟩
  | d :: t, hl, hsz, hby =>
    have d256 : d < 256 := hby d (List.mem_cons_self ..)
    have hge : ¬ s.size < 2 := by simp at hsz; omega
    have i1 := fun W => index_txt W 9 Tryz.underlying9 (s := s) (k := 1) (c := d) (by rw [hl]; rfl) .i64 1 rfl
    have I1 := Lib.hid i1
    clear i1
    by_cases h1 : d = 34
    · subst h1
      have i1 := I1.out
      go_enter Tryz.func75, Tryz.ntmps75
      go_wp2_with fail
      go_ret3
      exact ⟨rfl, Quiet.refl _⟩
    have e1 : ((d : Int) == 34) = false := by simp; omega
    by_cases h2 : d = 92
    · subst h2
      have i1 := I1.out
      go_enter Tryz.func75, Tryz.ntmps75
      go_wp2_with fail
      go_ret3
      exact ⟨rfl, Quiet.refl _⟩
    have e2 : ((d : Int) == 92) = false := by simp; omega
    by_cases h3 : d = 110
    · subst h3
      have i1 := I1.out
      go_enter Tryz.func75, Tryz.ntmps75
      go_wp2_with fail
      go_ret3
      exact ⟨rfl, Quiet.refl _⟩
    have e3 : ((d : Int) == 110) = false := by simp; omega
    by_cases h4 : d = 120
    · subst h4
      match t, hl, hsz, hby with
      | [], hl, hsz, _ =>
        have i1 := I1.out
        simp at hsz
        go_enter Tryz.func75, Tryz.ntmps75
        go_wp2_with fail
        go_ret3
        exact ⟨rfl, Quiet.refl _⟩
      | h :: t, hl, hsz, hby =>
        have h256 : h < 256 := hby h (by simp)
        have hge3 : ¬ s.size < 3 := by simp at hsz; omega
        have i2 := fun W => index_txt W 9 Tryz.underlying9 (s := s) (k := 2) (c := h) (by rw [hl]; rfl) .i64 2 rfl
        have I2 := Lib.hid i2
        clear i2
        have hd : digitN h ≤ 16 := by unfold digitN; split <;> (try split) <;> omega
        have D1 := Lib.hid (fun W => digit_any h h256 W)
        obtain ⟨dh, hdh⟩ : ∃ dh, digitN h = dh := ⟨_, rfl⟩
        rw [hdh] at hd D1
        by_cases h5 : 15 < dh
        · have hv : esc (120 :: h :: t) = (none, 2) := by simp [esc, hdh, h5]
          have Hv : escV (120 :: h :: t) = .tuple #[.int .u8 0, .int .i64 2, .bool false] := by simp [escV, hv]
          have HV := Lib.hid Hv
          clear hv Hv
          have i1 := I1.out
          have i2 := I2.out
          go_enter Tryz.func75, Tryz.ntmps75
          go_wp2_with (go_at_call 85; refine (D1.out _).mono ?_; rintro e w1 ⟨rfl, q1⟩)
          go_ret3
          exact ⟨by rw [HV.out]; rfl, q1⟩
        · obtain ⟨ha, hha⟩ : ∃ ha, hiddenN (16 * dh) = ha := ⟨_, rfl⟩
          obtain ⟨hb, hhb⟩ : ∃ hb, hiddenN (16 * dh + 15) = hb := ⟨_, rfl⟩
          have A1 := Lib.hid (fun W => hidden_at ((dh : Int) * 16) (16 * dh) ha (by omega) hha W)
          have B1 := Lib.hid (fun W => hidden_at ((dh : Int) * 16 + 15) (16 * dh + 15) hb (by omega) hhb W)
          have o1 : bits .or .u8 ((dh : Int) * 16) 15 = (dh : Int) * 16 + 15 := bits_or dh 15 (by omega) (by omega)
          have dlt : decide (15 < (dh : Int)) = false := by simp; omega
          by_cases hc : ha = false ∧ hb = false
          · obtain ⟨rfl, rfl⟩ := hc
            have Hv : escV (120 :: h :: t) = .tuple #[.int .u8 0, .int .i64 2, .bool false] := by simp [escV, esc, hdh, h5, hha, hhb]
            have HV := Lib.hid Hv
            clear Hv hha hhb
            have i1 := I1.out
            have i2 := I2.out
            have tok : True := trivial
            go_enter Tryz.func75, Tryz.ntmps75
            go_wp2_with (first
              | (go_at_call 85; refine (D1.out _).mono ?_; rintro e w1 ⟨rfl, q1⟩)
              | (go_at_call 86; have _t := tok; refine (A1.out _).mono ?_; rintro e w2 ⟨rfl, q2⟩; clear tok _t)
              | (go_at_call 86; refine (B1.out _).mono ?_; rintro e w3 ⟨rfl, q3⟩))
            go_ret3
            exact ⟨by rw [HV.out]; rfl, (q1.trans q2).trans q3⟩
          · -- it may be hidden: go on
            have Hor : ha = true ∨ (ha = false ∧ hb = true) := by
              cases ha <;> cases hb <;> simp at hc ⊢
            have hcond : ¬ (15 < dh ∨ (hiddenN (16 * dh) = false ∧ hiddenN (16 * dh + 15) = false)) := by
              rw [hha, hhb]
              intro hx
              rcases hx with hx | hx
              · exact h5 hx
              · exact hc hx
            clear hha hhb
            match t, hl, hsz, hby with
            | [], hl, hsz, _ =>
              have Hv : escV [120, h] = .tuple #[.int .u8 0, .int .i64 3, .bool false] := by simp only [escV, esc, hdh]; rw [if_neg (by omega), if_neg (by omega), if_neg (by simp), if_neg hcond]; rfl
              have HV := Lib.hid Hv
              clear Hv hcond
              simp at hsz
              rcases Hor with rfl | ⟨rfl, rfl⟩
              · have i1 := I1.out
                have i2 := I2.out
                go_enter Tryz.func75, Tryz.ntmps75
                go_wp2_with (first
                  | (go_at_call 85; refine (D1.out _).mono ?_; rintro e w1 ⟨rfl, q1⟩)
                  | (go_at_call 86; refine (A1.out _).mono ?_; rintro e w2 ⟨rfl, q2⟩))
                go_ret3
                exact ⟨by rw [HV.out]; rfl, q1.trans q2⟩
              · have i1 := I1.out
                have i2 := I2.out
                have tok : True := trivial
                go_enter Tryz.func75, Tryz.ntmps75
                go_wp2_with (first
                  | (go_at_call 85; refine (D1.out _).mono ?_; rintro e w1 ⟨rfl, q1⟩)
                  | (go_at_call 86; have _t := tok; refine (A1.out _).mono ?_; rintro e w2 ⟨rfl, q2⟩; clear tok _t)
                  | (go_at_call 86; refine (B1.out _).mono ?_; rintro e w3 ⟨rfl, q3⟩))
                go_ret3
                exact ⟨by rw [HV.out]; rfl, (q1.trans q2).trans q3⟩
            | lo :: t, hl, hsz, hby =>
              have lo256 : lo < 256 := hby lo (by simp)
              have hge4 : ¬ s.size < 4 := by simp at hsz; omega
              have i3 := fun W => index_txt W 9 Tryz.underlying9 (s := s) (k := 3) (c := lo) (by rw [hl]; rfl) .i64 3 rfl
              have I3 := Lib.hid i3
              clear i3
              have hd' : digitN lo ≤ 16 := by unfold digitN; split <;> (try split) <;> omega
              have E1 := Lib.hid (fun W => digit_any lo lo256 W)
              obtain ⟨dl, hdl⟩ : ∃ dl, digitN lo = dl := ⟨_, rfl⟩
              rw [hdl] at hd' E1
              -- what is common to all: the calls up to the second digit
              by_cases h6 : 15 < dl
              · have Hv : escV (120 :: h :: lo :: t) = .tuple #[.int .u8 0, .int .i64 3, .bool false] := by simp only [escV, esc, hdh, hdl]; rw [if_neg (by omega), if_neg (by omega), if_neg (by simp), if_neg hcond, if_pos (Or.inl h6)]; rfl
                have HV := Lib.hid Hv
                clear Hv hcond
                have tok : True := trivial
                have tok2 : True := trivial
                rcases Hor with rfl | ⟨rfl, rfl⟩
                · have i1 := I1.out
                  have i2 := I2.out
                  have i3 := I3.out
                  go_enter Tryz.func75, Tryz.ntmps75
                  go_wp2_with (first
                    | (go_at_call 85; have _t := tok; refine (D1.out _).mono ?_; rintro e w1 ⟨rfl, q1⟩; clear tok _t)
                    | (go_at_call 85; refine (E1.out _).mono ?_; rintro e w4 ⟨rfl, q4⟩)
                    | (go_at_call 86; refine (A1.out _).mono ?_; rintro e w2 ⟨rfl, q2⟩))
                  go_ret3
                  exact ⟨by rw [HV.out]; rfl, (q1.trans q2).trans q4⟩
                · have i1 := I1.out
                  have i2 := I2.out
                  have i3 := I3.out
                  go_enter Tryz.func75, Tryz.ntmps75
                  go_wp2_with (first
                    | (go_at_call 85; have _t := tok; refine (D1.out _).mono ?_; rintro e w1 ⟨rfl, q1⟩; clear tok _t)
                    | (go_at_call 85; refine (E1.out _).mono ?_; rintro e w4 ⟨rfl, q4⟩)
                    | (go_at_call 86; have _t := tok2; refine (A1.out _).mono ?_; rintro e w2 ⟨rfl, q2⟩; clear tok2 _t)
                    | (go_at_call 86; refine (B1.out _).mono ?_; rintro e w3 ⟨rfl, q3⟩))
                  go_ret3
                  exact ⟨by rw [HV.out]; rfl, ((q1.trans q2).trans q3).trans q4⟩
              · obtain ⟨hf, hhf⟩ : ∃ hf, hiddenN (16 * dh + dl) = hf := ⟨_, rfl⟩
                have F1 := Lib.hid (fun W => hidden_at ((dh : Int) * 16 + (dl : Int)) (16 * dh + dl) hf (by omega) hhf W)
                have o2 : bits .or .u8 ((dh : Int) * 16) (dl : Int) = (dh : Int) * 16 + (dl : Int) := bits_or dh dl (by omega) (by omega)
                have dlt2 : decide (15 < (dl : Int)) = false := by simp; omega
                have Hv : escV (120 :: h :: lo :: t) = (if hf then .tuple #[.int .u8 ((dh : Int) * 16 + (dl : Int)), .int .i64 4, .bool true] else .tuple #[.int .u8 0, .int .i64 3, .bool false]) := by
                  simp only [escV, esc, hdh, hdl]
                  rw [if_neg (by omega), if_neg (by omega), if_neg (by simp), if_neg hcond, hhf]
                  cases hf
                  · rw [if_pos (Or.inr rfl)]; rfl
                  · rw [if_neg (by simp; omega)]
                    have : ((16 * dh + dl : Nat) : Int) = (dh : Int) * 16 + (dl : Int) := by omega
                    simp only [this]; rfl
                have HV := Lib.hid Hv
                clear Hv hcond hhf
                have tok : True := trivial
                have tok2 : True := trivial
                have tok3 : True := trivial
                cases hf
                all_goals rcases Hor with rfl | ⟨rfl, rfl⟩
                all_goals
                  have i1 := I1.out
                  have i2 := I2.out
                  have i3 := I3.out
                  go_enter Tryz.func75, Tryz.ntmps75
                  go_wp2_with (first
                    | (go_at_call 85; have _t := tok; refine (D1.out _).mono ?_; rintro e w1 ⟨rfl, q1⟩; clear tok _t)
                    | (go_at_call 85; refine (E1.out _).mono ?_; rintro e w4 ⟨rfl, q4⟩)
                    | (go_at_call 86; have _t := tok2; refine (A1.out _).mono ?_; rintro e w2 ⟨rfl, q2⟩; clear tok2 _t)
                    | (go_at_call 86; have _t := q4; refine (F1.out _).mono ?_; rintro e w5 ⟨rfl, q5⟩)
                    | (go_at_call 86; refine (B1.out _).mono ?_; rintro e w3 ⟨rfl, q3⟩))
                  go_ret3
                  first
                    | exact ⟨by rw [HV.out]; rfl, ((q1.trans q2).trans q4).trans q5⟩
                    | exact ⟨by rw [HV.out]; rfl, (((q1.trans q2).trans q3).trans q4).trans q5⟩
    · have hv : escV (d :: t) = .tuple #[.int .u8 0, .int .i64 1, .bool false] := by simp [escV, esc, h1, h2, h3, h4]
      have HV := Lib.hid hv
      clear hv
      have e4 : ((d : Int) == 120) = false := by simp; omega
      have i1 := I1.out
      go_enter Tryz.func75, Tryz.ntmps75
      go_wp2_with fail
      go_ret3
      exact ⟨by rw [HV.out]; rfl, Quiet.refl _⟩
end Go.Proofs.YtidkbodmiegbkaaGreatDoor
namespace Go.Proofs.YtidkbodmiegbkaaGreatDoor
set_option linter.unusedSimpArgs false
set_option linter.unusedVariables false
open Go.RowKit
def quoteN (l : List Nat) : List Nat := 34 :: l.flatMap formN ++ [34]
theorem info_byte : (Tryz.prog.info? 5).map (fun i => (i.zero, i.size, i.bytes)) = some (some (.int .u8 0), 1, 1) := by kernel_rfl
theorem formN_bytes (c : Nat) (hc : c < 256) : Bytes (formN c) := by
  intro n hn
  rcases form_cases c with ⟨_, h⟩ | ⟨_, h⟩ | ⟨_, h⟩ | ⟨_, _, _, _, h⟩ | ⟨_, h⟩ <;> rw [h] at hn <;> simp at hn
  · omega
  · omega
  · omega
  · omega
  · have h1 := hexN_lt (c / 16) (by omega)
    have h2 := hexN_lt (c % 16) (by omega)
    omega
theorem flat_len : ∀ (l : List Nat), (l.flatMap formN).length ≤ 4 * l.length
  | [] => by simp
  | c :: l => by
    have := flat_len l
    have := (form_len c).2
    simp only [List.flatMap_cons, List.length_append, List.length_cons]
    omega
theorem take_flat {l : List Nat} {k c : Nat} (h : l[k]? = some c) : 34 :: (l.take (k + 1)).flatMap formN = (34 :: (l.take k).flatMap formN) ++ formN c := by
  have hk := (List.getElem?_eq_some_iff.1 h).1
  rw [List.take_succ_eq_append_getElem hk, (List.getElem?_eq_some_iff.1 h).2, List.flatMap_append]
  simp
theorem quote_bytes {l : List Nat} (h : Bytes l) : Bytes (quoteN l) := by
  intro n hn
  simp only [quoteN, List.cons_append, List.mem_cons, List.mem_append, List.mem_flatMap, List.not_mem_nil, or_false] at hn
  rcases hn with rfl | ⟨c, hc, hn⟩ | rfl
  · omega
  · exact formN_bytes c (h c hc) n hn
  · omega
theorem bits_and (n : Nat) (hn : n < 256) : bits .and .u8 (n : Int) 15 = ((n % 16 : Nat) : Int) := by
  have : ∀ n : Fin 256, bits .and .u8 (n.1 : Int) 15 = ((n.1 % 16 : Nat) : Int) := by decide +kernel
  exact this ⟨n, hn⟩
theorem hidden_of (c : Nat) (b : Bool) (hb : hiddenN c = b) (w : World) : Calls Tryz.prog 86 #[.int .u8 (c : Int)] w fun e w' => e = .returned (.bool b) ∧ Quiet w w' := hb ▸ hidden_any c w
set_option maxHeartbeats 2000000 in
theorem quote_any (s : ByteArray) (hs : s.size ≤ 1048576) (w : World) : Calls Tryz.prog 83 #[.string s] w fun e w' => e = .returned (.string (txt (quoteN (bs s)))) ∧ Below w.heap.size w w' := by
  obtain ⟨j, hi, hz, hsz, hby⟩ := info_parts info_byte
  have I := Lib.hid (And.intro hi (And.intro hz (And.intro hsz hby)))
  clear hi hz hsz hby
  obtain ⟨n, hn⟩ : ∃ n, s.size = n := ⟨_, rfl⟩
  have Hn := Lib.hid hn
  rw [hn] at hs
  have hn' : (s.size : Int) = (n : Int) := by rw [hn]
  clear hn
  go_enter Tryz.func83, Tryz.ntmps83
  go_wp2_with fail
  go_loopw [3, 9] (fun o i wr => ∃ k : Nat, k ≤ n ∧ i = .int .i64 k ∧ Below w.heap.size w wr ∧ Hid (Own1 wr w.heap.size 5 1 IsByte o (34 :: ((bs s).take k).flatMap formN))) (fun _ i _ => n - (intOf i).toNat)
  case atStart =>
    exact ⟨0, Nat.zero_le _, rfl, (Below.refl _ w).alloc (Nat.le_refl _) _, own_bytes (xs := [.int .u8 34]) rfl (Nat.le_refl _) rfl (fun m hm => by simp at hm; omega) (by simp [maxLen]) 1 1 rfl rfl⟩
  case round =>
    obtain ⟨k, hk, rfl, hb, ho⟩ := hrel
    have b0 : (0 : Int) ≤ (k : Int) := Int.natCast_nonneg _
    by_cases hlt : k < n
    · have hlt' : k < s.size := by rw [Hn.out]; exact hlt
      obtain ⟨c, hc, c256⟩ := get_bs hlt'
      have i1 := fun W => index_txt W 9 Tryz.underlying9 hc .i64 _ rfl
      have hfl := flat_len ((bs s).take k)
      have htk := List.length_take_le k (bs s)
      have hlen : (34 :: ((bs s).take k).flatMap formN).length ≤ 1 + 4 * k := by rw [List.length_cons]; omega
      have Hlen := Lib.hid hlen
      have Htf := Lib.hid (take_flat hc)
      have hbz := hb.size
      clear hc hfl htk hlen
      by_cases c1 : c = 10
      · subst c1
        go_wp2_with (at_builtin
                     go_must (refine wpList_append_bytes rfl (.tmp 22) (.tmp 23) _ rfl w.heap.size (wr.heap.size + 1) 5 j Tryz.underlying112 I.out.1 I.out.2.1 I.out.2.2.1 I.out.2.2.2 (l := 34 :: ((bs s).take k).flatMap formN) (m := [92, 110]) u3 rfl (by exact ho.out.alloc _) (some ⟨wr.heap.size, 0, none⟩) 2 2 rfl (by exact bytes_row (xs := [.int .u8 92, .int .u8 110]) rfl rfl (fun m hm => by simp at hm; omega) (by simp [maxLen]) 2 2 rfl rfl) (by have := Hlen.out; omega) (by rw [World.size_alloc]; omega) ?_)
                     intro xa xn xc w4 hown hb4)
        go_roundw
        case rel => exact ⟨k + 1, by omega, by go_num, (hb.alloc (by omega) _).trans hb4, by rw [Htf.out]; exact hown⟩
        case measure => simp [intOf]; omega
      have e1 : ((c : Int) == 10) = false := by simp; omega
      by_cases c2 : hiddenN c = true
      · have Hh := Lib.hid (fun W => hidden_of c true c2 W)
        have hf := form_hidden c2
        rw [hf] at Htf
        clear hf c2
        have s1 : bits .and .u8 (c : Int) 15 = ((c % 16 : Nat) : Int) := bits_and c c256
        have i2 := fun W => index_hex W 9 Tryz.underlying9 (c / 16) (by omega) .u8 ((c : Int) / 16) (by omega)
        have i3 := fun W => index_hex W 9 Tryz.underlying9 (c % 16) (by omega) .u8 ((c : Int) % 16) (by omega)
        have x1 := hexN_lt (c / 16) (by omega)
        have x2 := hexN_lt (c % 16) (by omega)
        generalize hexN (c / 16) = q1 at *
        generalize hexN (c % 16) = q2 at *
        go_wp2_with (go_at_call 86; refine (Hh.out _).mono ?_; rintro e w1 ⟨rfl, qq⟩)
        have ho1 : Hid (Own1 w1 w.heap.size 5 1 IsByte u3 (34 :: ((bs s).take k).flatMap formN)) := by
          obtain ⟨q, rfl⟩ := qq
          exact ho.out.drewN q
        have hb1 : Below w.heap.size w w1 := by
          obtain ⟨q, rfl⟩ := qq
          exact below_drewN hb q
        have hz1 := hb1.size
        clear qq ho hb
        go_region_held3 (fun _ => True)
          (trivial)
          (first
            | (go_must (refine step_append_bytes rfl (.tmp 28) (.tmp 35) _ rfl w.heap.size (w1.heap.size + 1) 5 j Tryz.underlying112 I.out.1 I.out.2.1 I.out.2.2.1 I.out.2.2.2 (l := 34 :: ((bs s).take k).flatMap formN) (m := [92, 120, q1, q2]) u3 rfl (by exact (ho1.out.alloc _).drew) (some ⟨w1.heap.size, 0, none⟩) 4 4 rfl (by exact bytes_row (xs := [.int .u8 92, .int .u8 120, .int .u8 (q1 : Int), .int .u8 (q2 : Int)]) rfl rfl (fun m hm => by simp at hm; omega) (by simp [maxLen]) 4 4 rfl rfl) (by have := Hlen.out; omega) (by show _ ≤ (w1.alloc _).heap.size; rw [World.size_alloc]; omega) ?_)
               intro xa xn xc w4 hown hb4
               have hbb : Below w.heap.size w w4 := (hb1.alloc (by omega) _).drew.trans hb4
               clear hb4))
        all_goals
          go_wp2_with fail
          go_roundw
          case rel => exact ⟨k + 1, by omega, by go_num, hbb, by rw [Htf.out]; exact hown⟩
          case measure => simp [intOf]; omega
      have Hh := Lib.hid (fun W => hidden_of c false (by simpa using c2) W)
      simp only [hiddenN, decide_eq_true_eq] at c2
      by_cases c3 : c = 34 ∨ c = 92
      · have Hf : formN c = [92, c] := by rcases c3 with rfl | rfl <;> rfl
        rw [Hf] at Htf
        clear Hf c2
        rcases c3 with rfl | rfl
        all_goals
          go_wp2_with (first
            | (go_at_call 86; refine (Hh.out _).mono ?_; rintro e w1 ⟨rfl, qq⟩
               have ho1 : Hid (Own1 w1 w.heap.size 5 1 IsByte u3 (34 :: ((bs s).take k).flatMap formN)) := by
                 obtain ⟨q, rfl⟩ := qq
                 exact ho.out.drewN q
               have hb1 : Below w.heap.size w w1 := by
                 obtain ⟨q, rfl⟩ := qq
                 exact below_drewN hb q
               have hz1 := hb1.size
               clear qq ho hb)
            | (at_builtin
               go_must (refine wpList_append_bytes rfl (.tmp 44) (.tmp 46) _ rfl w.heap.size (w1.heap.size + 1) 5 j Tryz.underlying112 I.out.1 I.out.2.1 I.out.2.2.1 I.out.2.2.2 (l := 34 :: ((bs s).take k).flatMap formN) (m := [92, _]) u3 rfl (by exact ho1.out.alloc _) (some ⟨w1.heap.size, 0, none⟩) 2 2 rfl (by exact bytes_row (xs := [.int .u8 92, .int .u8 _]) rfl rfl (fun m hm => by simp at hm; omega) (by simp [maxLen]) 2 2 rfl rfl) (by have := Hlen.out; omega) (by rw [World.size_alloc]; omega) ?_)
               intro xa xn xc w4 hown hb4
               have hbb : Below w.heap.size w w4 := (hb1.alloc (by omega) _).trans hb4))
          go_roundw
          case rel => exact ⟨k + 1, by omega, by go_num, hbb, by rw [Htf.out]; exact hown⟩
          case measure => simp [intOf]; omega
      · have e2 : ((c : Int) == 34) = false := by simp; omega
        have e3 : ((c : Int) == 92) = false := by simp; omega
        have Hf : formN c = [c] := form_plain (by omega) (by omega) (by omega) (by omega)
        rw [Hf] at Htf
        clear Hf c2 c3
        go_wp2_with (first
            | (go_at_call 86; refine (Hh.out _).mono ?_; rintro e w1 ⟨rfl, qq⟩
               have ho1 : Hid (Own1 w1 w.heap.size 5 1 IsByte u3 (34 :: ((bs s).take k).flatMap formN)) := by
                 obtain ⟨q, rfl⟩ := qq
                 exact ho.out.drewN q
               have hb1 : Below w.heap.size w w1 := by
                 obtain ⟨q, rfl⟩ := qq
                 exact below_drewN hb q
               have hz1 := hb1.size
               clear qq ho hb)
            | (at_builtin
               go_must (refine wpList_append_bytes rfl (.tmp 15) (.tmp 17) _ rfl w.heap.size (w1.heap.size + 1) 5 j Tryz.underlying112 I.out.1 I.out.2.1 I.out.2.2.1 I.out.2.2.2 (l := 34 :: ((bs s).take k).flatMap formN) (m := [c]) u3 rfl (by exact ho1.out.alloc _) (some ⟨w1.heap.size, 0, none⟩) 1 1 rfl (by exact bytes_row (xs := [.int .u8 (c : Int)]) rfl rfl (fun m hm => by simp at hm; omega) (by simp [maxLen]) 1 1 rfl rfl) (by have := Hlen.out; omega) (by rw [World.size_alloc]; omega) ?_)
               intro xa xn xc w4 hown hb4
               have hbb : Below w.heap.size w w4 := (hb1.alloc (by omega) _).trans hb4))
        go_roundw
        case rel => exact ⟨k + 1, by omega, by go_num, hbb, by rw [Htf.out]; exact hown⟩
        case measure => simp [intOf]; omega
    · have hge : n ≤ k := by omega
      have hdec : decide (k < n) = false := by simp; omega
      clear hlt
      have hall : (bs s).take k = bs s := List.take_of_length_le (by rw [bs_len, Hn.out]; exact hge)
      rw [hall] at ho
      have hlen := flat_len (bs s)
      rw [bs_len, Hn.out] at hlen
      have Hlen := Lib.hid hlen
      have hbz := hb.size
      clear hall hlen
      go_wp2_with (at_builtin
                   go_must (refine wpList_append_bytes rfl (.tmp 49) (.tmp 50) _ rfl w.heap.size (wr.heap.size + 1) 5 j Tryz.underlying112 I.out.1 I.out.2.1 I.out.2.2.1 I.out.2.2.2 (l := 34 :: (bs s).flatMap formN) (m := [34]) u3 rfl (by exact ho.out.alloc _) (some ⟨wr.heap.size, 0, none⟩) 1 1 rfl (by exact bytes_row (xs := [.int .u8 34]) rfl rfl (fun m hm => by simp at hm; omega) (by simp [maxLen]) 1 1 rfl rfl) (by have := Hlen.out; rw [List.length_cons]; omega) (by rw [World.size_alloc]; omega) ?_)
                   intro xa xn xc w4 hown hb4
                   have hbb : Below w.heap.size w w4 := (hb.alloc (by omega) _).trans hb4
                   have hc := run_text_of_row 112 9 5 Tryz.underlying112 Tryz.underlying5 Tryz.underlying9 hown
                   clear hown hb4)
      go_ret
      exact ⟨rfl, hbb⟩
end Go.Proofs.YtidkbodmiegbkaaGreatDoor
namespace Go.Proofs.YtidkbodmiegbkaaGreatDoor
set_option linter.unusedSimpArgs false
set_option linter.unusedVariables false
open Go.RowKit
theorem one_some {r : List Nat} (hr : Bytes r) (h34 : r.head? ≠ some 34) {c n m : Nat} (h : one r = (some (c, n), m)) : c < 256 ∧ n = (formN c).length ∧ ∃ t, r = formN c ++ t := by
  match r, h34, h, hr with
  | [], _, h, _ => simp [one] at h
  | b :: t, h34, h, hr =>
    have b256 : b < 256 := hr b (by simp)
    by_cases hb : b = 92
    · subst hb
      simp only [one, if_pos] at h
      match t, h, hr with
      | [], h, _ => simp [esc] at h
      | d :: t, h, hr =>
        by_cases h1 : d = 34
        · subst h1; simp [esc] at h; obtain ⟨⟨rfl, rfl⟩, _⟩ := h; exact ⟨by omega, rfl, t, rfl⟩
        by_cases h2 : d = 92
        · subst h2; simp [esc] at h; obtain ⟨⟨rfl, rfl⟩, _⟩ := h; exact ⟨by omega, rfl, t, rfl⟩
        by_cases h3 : d = 110
        · subst h3; simp [esc] at h; obtain ⟨⟨rfl, rfl⟩, _⟩ := h; exact ⟨by omega, rfl, t, rfl⟩
        by_cases h4 : d = 120
        · subst h4
          match t, h, hr with
          | [], h, _ => simp [esc] at h
          | x :: t, h, hr =>
            by_cases hg : 15 < digitN x ∨ (hiddenN (16 * digitN x) = false ∧ hiddenN (16 * digitN x + 15) = false)
            · simp [esc, hg] at h
            · match t, h, hr with
              | [], h, _ => simp [esc, hg] at h
              | y :: t, h, hr =>
                by_cases hl : 15 < digitN y ∨ hiddenN (16 * digitN x + digitN y) = false
                · simp [esc, hg, hl] at h
                · simp [esc, hg, hl] at h
                  obtain ⟨⟨rfl, rfl⟩, _⟩ := h
                  have d1 : digitN x ≤ 15 := by omega
                  have d2 : digitN y ≤ 15 := by omega
                  have hh : hiddenN (16 * digitN x + digitN y) = true := by
                    rcases hb : hiddenN (16 * digitN x + digitN y) with _ | _
                    · exact absurd (Or.inr hb) hl
                    · rfl
                  have q1 : (16 * digitN x + digitN y) / 16 = digitN x := by omega
                  have q2 : (16 * digitN x + digitN y) % 16 = digitN y := by omega
                  rw [form_hidden hh, q1, q2, hex_of_digit x d1, hex_of_digit y d2]
                  exact ⟨by omega, rfl, t, rfl⟩
        · simp [esc, h1, h2, h3, h4] at h
    · by_cases hp : b < 32 ∨ 126 < b
      · simp [one, hb, hp] at h
      · simp [one, hb, hp] at h
        obtain ⟨⟨rfl, rfl⟩, _⟩ := h
        have h34' : b ≠ 34 := by simpa using h34
        rw [form_plain (by omega) (by omega) h34' hb]
        exact ⟨b256, rfl, t, rfl⟩
theorem esc_some {l : List Nat} (hl : Bytes l) {c n m : Nat} (h : esc l = (some (c, n), m)) : c < 256 ∧ 2 ≤ n ∧ n ≤ l.length + 1 := by
  have h1 : one (92 :: l) = (some (c, n), m) := by simp [one, h]
  obtain ⟨c1, c2, t, c3⟩ := one_some (fun k hk => by rcases List.mem_cons.1 hk with rfl | hk; omega; exact hl k hk) (by simp) h1
  have e := congrArg List.length c3
  simp at e
  have : formN c ≠ [92] := by
    rcases form_cases c with ⟨_, h⟩ | ⟨_, h⟩ | ⟨_, h⟩ | ⟨_, _, _, h4, h⟩ | ⟨_, h⟩ <;> rw [h] <;> simp [*]
  have hl1 : (formN c).length ≠ 1 := by
    intro hl1
    match hf : formN c, hl1, c3 with
    | [z], _, c3 =>
      injection c3 with c4 _
      exact this (by rw [hf, ← c4])
  have := form_len c
  omega
theorem esc_none {l : List Nat} {n : Nat} (h : esc l = (none, n)) : 1 ≤ n ∧ n ≤ l.length + 1 := by
  match l, h with
  | [], h => simp [esc] at h; subst h; simp
  | d :: t, h =>
    simp only [esc] at h
    split at h
    · simp at h
    · split at h
      · simp at h
      · split at h
        · simp at h; subst h; simp
        · match t, h with
          | [], h => simp at h; subst h; simp
          | x :: t, h =>
            simp only at h
            split at h
            · simp at h; subst h; simp
            · match t, h with
              | [], h => simp at h; subst h; simp
              | y :: t, h =>
                simp only at h
                split at h
                · simp at h; subst h; simp
                · simp at h
/-- what is read from place i on -/
def unq (l : List Nat) : Nat → Nat → List Nat → List Nat × Nat × Nat
  | 0, i, _ => ([], i, 10)
  | f + 1, i, out => if l[i]? = some 34 then (out, i + 1, 0) else
    match one (l.drop i) with
    | (some (c, n), _) => unq l f (i + n) (out ++ [c])
    | (none, far) => ([], i + far, 10)
def unquoteN (l : List Nat) (a : Int) : List Nat × Int × Nat :=
  if a < 0 ∨ (l.length : Int) < a then ([], 0, 2) else if l[a.toNat]? ≠ some 34 then ([], a, 10) else
    ((unq l (l.length + 1) (a.toNat + 1) []).1, ((unq l (l.length + 1) (a.toNat + 1) []).2.1 : Int), (unq l (l.length + 1) (a.toNat + 1) []).2.2)
def unqV (r : List Nat × Int × Nat) : Value := .tuple #[.string (txt r.1), .int .i64 r.2.1, .int .i64 (r.2.2 : Int)]
theorem unq_end {l : List Nat} {f i : Nat} {o : List Nat} {R : List Nat × Nat × Nat} (h : unq l f i o = R) (hf : 1 ≤ f) (hi : l[i]? = some 34) : R = (o, i + 1, 0) := by
  obtain ⟨f, rfl⟩ : ∃ g, f = g + 1 := ⟨f - 1, by omega⟩
  rw [← h, unq, if_pos hi]
theorem unq_stop {l : List Nat} {f i far : Nat} {o : List Nat} {R : List Nat × Nat × Nat} (h : unq l f i o = R) (hf : 1 ≤ f) (hi : l[i]? ≠ some 34) (ho : one (l.drop i) = (none, far)) : R = ([], i + far, 10) := by
  obtain ⟨f, rfl⟩ : ∃ g, f = g + 1 := ⟨f - 1, by omega⟩
  rw [← h, unq, if_neg hi, ho]
theorem unq_step {l : List Nat} {f i c n m : Nat} {o : List Nat} {R : List Nat × Nat × Nat} (h : unq l f i o = R) (hf : 1 ≤ f) (hi : l[i]? ≠ some 34) (ho : one (l.drop i) = (some (c, n), m)) : unq l (f - 1) (i + n) (o ++ [c]) = R := by
  obtain ⟨f, rfl⟩ : ∃ g, f = g + 1 := ⟨f - 1, by omega⟩
  rw [← h, unq, if_neg hi, ho]
  rfl
set_option maxHeartbeats 4000000 in
theorem unquote_any (s : ByteArray) (a : Int) (ha : (Lit.int .i64 a).wf = true) (hs : s.size ≤ 1048576) (w : World) : Calls Tryz.prog 54 #[.string s, .int .i64 a] w fun e w' => e = .returned (unqV (unquoteN (bs s) a)) ∧ Below w.heap.size w w' := by
  obtain ⟨j, hi, hz, hsz, hby⟩ := info_parts info_byte
  have I := Lib.hid (And.intro hi (And.intro hz (And.intro hsz hby)))
  clear hi hz hsz hby
  obtain ⟨n, hn⟩ : ∃ n, s.size = n := ⟨_, rfl⟩
  have Hn := Lib.hid hn
  have hln : (bs s).length = n := by rw [bs_len, hn]
  have Hln := Lib.hid hln
  rw [hn] at hs
  have hn' : (s.size : Int) = (n : Int) := by rw [hn]
  clear hn
  by_cases h1 : a < 0
  · have hv : unquoteN (bs s) a = ([], 0, 2) := by simp [unquoteN, h1]
    have HV := Lib.hid hv
    clear hv hln
    go_enter Tryz.func54, Tryz.ntmps54
    go_wp2_with fail
    go_step3
    go_wp2_with fail
    rw [Exit.noGoto_ret]
    go_ret3
    exact ⟨by rw [HV.out]; rfl, Below.refl _ _⟩
  have d1 : decide (a < 0) = false := by simpa using h1
  by_cases h2 : (n : Int) < a
  · have hv : unquoteN (bs s) a = ([], 0, 2) := by simp [unquoteN, hln, h2]
    have HV := Lib.hid hv
    clear hv hln
    go_enter Tryz.func54, Tryz.ntmps54
    go_wp2_with fail
    go_step3
    go_wp2_with fail
    rw [Exit.noGoto_ret]
    go_ret3
    exact ⟨by rw [HV.out]; rfl, Below.refl _ _⟩
  have d2 : decide ((n : Int) < a) = false := by simpa using h2
  obtain ⟨k0, rfl⟩ : ∃ k : Nat, a = (k : Int) := ⟨a.toNat, by omega⟩
  have hgate : unquoteN (bs s) k0 = if (bs s)[k0]? ≠ some 34 then ([], (k0 : Int), 10) else ((unq (bs s) (n + 1) (k0 + 1) []).1, ((unq (bs s) (n + 1) (k0 + 1) []).2.1 : Int), (unq (bs s) (n + 1) (k0 + 1) []).2.2) := by
    unfold unquoteN
    rw [if_neg (by rw [hln]; omega), hln]
    rfl
  have d2' : decide (n < k0) = false := by simp; omega
  by_cases h3 : k0 = n
  · subst h3
    have hv : unquoteN (bs s) k0 = ([], (k0 : Int), 10) := by
      rw [hgate, if_pos (by rw [List.getElem?_eq_none (by omega)]; simp)]
    have HV := Lib.hid hv
    clear hv hln hgate
    go_enter Tryz.func54, Tryz.ntmps54
    go_wp2_with fail
    go_step3
    go_wp2_with fail
    rw [Exit.noGoto_ret]
    go_ret3
    exact ⟨by rw [HV.out]; rfl, Below.refl _ _⟩
  have d3 : ((k0 : Int) == (n : Int)) = false := by simp; omega
  have hk0 : k0 < s.size := by omega
  have b0 : (0 : Int) ≤ (k0 : Int) := Int.natCast_nonneg _
  obtain ⟨c0, hc0, c0256⟩ := get_bs hk0
  have i0 := fun W => index_txt W 9 Tryz.underlying9 hc0 .i64 _ rfl
  by_cases h4 : c0 = 34
  · subst h4
    rw [hc0, if_neg (by simp)] at hgate
    have HG := Lib.hid hgate
    have hR : unq (bs s) (n + 1) (k0 + 1) [] = unq (bs s) (n + 1) (k0 + 1) [] := rfl
    generalize hRR : unq (bs s) (n + 1) (k0 + 1) [] = R at HG hR
    clear hR
    have HR := Lib.hid hRR
    have I0 := Lib.hid i0
    clear hgate hc0 hRR hln i0
    have i0 := I0.out
    go_enter Tryz.func54, Tryz.ntmps54
    go_wp2_with fail
    go_step3
    go_wp2_with fail
    go_step3
    go_wp2_with fail
    go_loopw [7, 8] (fun o i wr => ∃ (k f : Nat) (out : List Nat), k ≤ n ∧ n < f + k ∧ i = .int .i64 k ∧ Hid (unq (bs s) f k out = R) ∧ Below w.heap.size w wr ∧ Hid (Own1 wr w.heap.size 5 1 IsByte o out ∧ out.length ≤ k)) (fun _ i _ => n - (intOf i).toNat)
    case atStart => exact ⟨k0 + 1, n + 1, [], by omega, by omega, by go_num, HR.out, Below.refl _ _, ⟨[], World.ownsRow_nil _ _ _ _, FlatR.nil_⟩, by simp⟩
    case round =>
      obtain ⟨k, f, out, hk, hf, rfl, hu, hb, ho⟩ := hrel
      clear i0 I0
      have b1 : (0 : Int) ≤ (k : Int) := Int.natCast_nonneg _
      by_cases hlt : k < n
      · have hlt' : k < s.size := by omega
        obtain ⟨c, hc, c256⟩ := get_bs hlt'
        have i1 := fun W => index_txt W 9 Tryz.underlying9 hc .i64 _ rfl
        have hdrop := drop_bs hc
        have hbz := hb.size
        by_cases c1 : c = 34
        · subst c1
          have hv := unq_end hu.out (by omega) hc
          have HV := Lib.hid hv
          have hcv := run_text_of_row 112 9 5 Tryz.underlying112 Tryz.underlying5 Tryz.underlying9 ho.out.1
          clear hv hc hdrop
          go_wp2_with fail
          (try simp only [Exit.inBlock, Exit.then, Exit.noGoto_ret])
          go_ret3
          exact ⟨by rw [HG.out, HV.out]; rfl, hb⟩
        have e1 : ((c : Int) == 34) = false := by simp; omega
        have hne : (bs s)[k]? ≠ some 34 := by rw [hc]; simpa using c1
        by_cases c2 : c = 92
        · subst c2
          have hone : one ((bs s).drop k) = esc ((bs s).drop (k + 1)) := by rw [hdrop]; rfl
          have hx : bs (s.extract k s.size) = 92 :: (bs s).drop (k + 1) := by
            rw [bs_extract, ← hdrop, List.take_of_length_le (by rw [bs_len]; exact Nat.le_refl _)]
          have hxs : (s.extract k s.size).size ≤ maxLen := by
            rw [← bs_len, hx, List.length_cons, List.length_drop, Hln.out]; unfold maxLen; omega
          have hby : Bytes ((bs s).drop (k + 1)) := fun m hm => bs_bytes s m (List.mem_of_mem_drop hm)
          have hdl : ((bs s).drop (k + 1)).length = n - (k + 1) := by rw [List.length_drop, Hln.out]
          have E : Hid (∀ W, Calls Tryz.prog 75 #[.string (s.extract k s.size)] W fun e w' => e = .returned (escV ((bs s).drop (k + 1))) ∧ Quiet W w') := Lib.hid (fun W => escape_any (s.extract k s.size) 92 ((bs s).drop (k + 1)) hx hxs W)
          have tok : True := trivial
          rcases hE : esc ((bs s).drop (k + 1)) with ⟨_ | ⟨c', n'⟩, m'⟩
          · have hm := esc_none hE
            rw [hdl] at hm
            have hv := unq_stop hu.out (by omega) hne (hone.trans hE)
            have HV := Lib.hid hv
            have he : escV ((bs s).drop (k + 1)) = .tuple #[.int .u8 0, .int .i64 (m' : Int), .bool false] := by simp [escV, hE]
            rw [he] at E
            clear hv hc hdrop hone hx hxs hby hdl hne hE he
            go_wp2_with (first
              | (go_at_call 75; have _t := tok; refine (E.out _).mono ?_; rintro e w1 ⟨rfl, qq⟩; clear tok _t)
              | (go_at_call 75; trace_state; fail))
            (try simp only [Exit.inBlock, Exit.then, Exit.noGoto_ret])
            go_ret3
            exact ⟨by rw [HG.out, HV.out]; simp [unqV, txt], by obtain ⟨q, rfl⟩ := qq; exact below_drewN hb q⟩
          · have hm := esc_some hby hE
            rw [hdl] at hm
            have hv := unq_step hu.out (by omega) hne (hone.trans hE)
            have HV := Lib.hid hv
            have he : escV ((bs s).drop (k + 1)) = .tuple #[.int .u8 (c' : Int), .int .i64 (n' : Int), .bool true] := by simp [escV, hE]
            rw [he] at E
            clear hv hc hdrop hone hx hxs hby hdl hne hE he
            obtain ⟨hol, hok⟩ := ho.out
            have Ho := Lib.hid hol
            clear ho hol
            go_wp2_with (first
              | (go_at_call 75; have _t := tok; refine (E.out _).mono ?_; rintro e w1 ⟨rfl, qq⟩
                 have ho1 : Hid (Own1 w1 w.heap.size 5 1 IsByte u7 out) := by
                   obtain ⟨q, rfl⟩ := qq
                   exact Ho.out.drewN q
                 have hb1 : Below w.heap.size w w1 := by
                   obtain ⟨q, rfl⟩ := qq
                   exact below_drewN hb q
                 have hz1 := hb1.size
                 clear tok _t qq Ho hb)
              | (at_builtin
                 go_must (refine wpList_append_bytes rfl (.tmp 70) (.tmp 72) _ rfl w.heap.size (w1.heap.size + 1) 5 j Tryz.underlying112 I.out.1 I.out.2.1 I.out.2.2.1 I.out.2.2.2 (l := out) (m := [c']) u7 rfl (by exact ho1.out.alloc _) (some ⟨w1.heap.size, 0, none⟩) 1 1 rfl (by exact bytes_row (xs := [.int .u8 (c' : Int)]) rfl rfl (fun m hm => by simp at hm; omega) (by simp [maxLen]) 1 1 rfl rfl) (by omega) (by rw [World.size_alloc]; omega) ?_)
                 intro xa xn xc w4 hown hb4
                 have hbb : Below w.heap.size w w4 := (hb1.alloc (by omega) _).trans hb4))
            go_roundw
            case rel => exact ⟨k + n', f - 1, out ++ [c'], by omega, by omega, by go_num, HV.out, hbb, hown, by simp; omega⟩
            case measure => simp [intOf]; omega
        have e2 : ((c : Int) == 92) = false := by simp; omega
        by_cases c3 : c < 32 ∨ 126 < c
        · have hone : one ((bs s).drop k) = (none, 0) := by rw [hdrop]; simp [one, c2, c3]
          have hv := unq_stop hu.out (by omega) hne hone
          have HV := Lib.hid hv
          clear hv hc hdrop hone hne
          have c3' : c < 32 ∨ (¬ c < 32 ∧ 126 < c) := by omega
          clear c3
          rcases c3' with c3 | ⟨c3, c4⟩
          all_goals
            go_wp2_with fail
            (try simp only [Exit.inBlock, Exit.then, Exit.noGoto_ret])
            go_ret3
            exact ⟨by rw [HG.out, HV.out]; simp [unqV, txt], hb⟩
        · have hone : one ((bs s).drop k) = (some (c, 1), 1) := by rw [hdrop]; simp [one, c2, c3]
          have hv := unq_step hu.out (by omega) hne hone
          have HV := Lib.hid hv
          have c4 : ¬ c < 32 := by omega
          have c5 : ¬ 126 < c := by omega
          clear hv hc hdrop hone hne c3
          obtain ⟨hol, hok⟩ := ho.out
          have Ho := Lib.hid hol
          clear ho hol
          go_wp2_with (at_builtin
                       go_must (refine wpList_append_bytes rfl (.tmp 41) (.tmp 43) _ rfl w.heap.size (wr.heap.size + 1) 5 j Tryz.underlying112 I.out.1 I.out.2.1 I.out.2.2.1 I.out.2.2.2 (l := out) (m := [c]) u7 rfl (by exact Ho.out.alloc _) (some ⟨wr.heap.size, 0, none⟩) 1 1 rfl (by exact bytes_row (xs := [.int .u8 (c : Int)]) rfl rfl (fun m hm => by simp at hm; omega) (by simp [maxLen]) 1 1 rfl rfl) (by omega) (by rw [World.size_alloc]; omega) ?_)
                       intro xa xn xc w4 hown hb4
                       have hbb : Below w.heap.size w w4 := (hb.alloc (by omega) _).trans hb4)
          go_roundw
          case rel => exact ⟨k + 1, f - 1, out ++ [c], by omega, by omega, by go_num, HV.out, hbb, hown, by simp; omega⟩
          case measure => simp [intOf]; omega
      · have hv := unq_stop hu.out (far := 0) (by omega) (by rw [List.getElem?_eq_none (by rw [Hln.out]; omega)]; simp) (by rw [List.drop_of_length_le (by rw [Hln.out]; omega)]; rfl)
        have HV := Lib.hid hv
        clear hv
        have hdec : decide (k < n) = false := by simp; omega
        go_wp2_with fail
        (try simp only [Exit.inBlock, Exit.then, Exit.noGoto_ret])
        go_ret3
        exact ⟨by rw [HG.out, HV.out]; simp [unqV, txt], hb⟩
  · have d4 : ((c0 : Int) != 34) = true := by simp; omega
    have hv : unquoteN (bs s) k0 = ([], (k0 : Int), 10) := by rw [hgate, if_pos (by rw [hc0]; simpa using h4)]
    have HV := Lib.hid hv
    clear hv hln hgate hc0
    go_enter Tryz.func54, Tryz.ntmps54
    go_wp2_with fail
    go_step3
    go_wp2_with fail
    rw [Exit.noGoto_ret]
    go_ret3
    exact ⟨by rw [HV.out]; rfl, Below.refl _ _⟩
end Go.Proofs.YtidkbodmiegbkaaGreatDoor
namespace Go.Proofs.YtidkbodmiegbkaaGreatDoor
set_option linter.unusedSimpArgs false
set_option linter.unusedVariables false
open Go.RowKit
theorem Own1.nil_ {α : Type} (w : World) (base : Nat) (t : TypeId) (size : Nat) (R : List Value → α → Prop) : Own1 w base t size R (.slice none 0 0) ([] : List α) := ⟨[], World.ownsRow_nil _ _ _ _, FlatR.nil_⟩
end Go.Proofs.YtidkbodmiegbkaaGreatDoor
namespace Go.Proofs.YtidkbodmiegbkaaGreatDoor
set_option linter.unusedSimpArgs false
set_option linter.unusedVariables false
structure Tok where
  kind : Int
  text : List Nat
  num : Int
  place : Int
  deriving DecidableEq
def marksL : List (List Nat) := [[45, 62], [33, 33], [33, 61], [61, 61], [60, 61], [46], [35], [94], [63], [40], [41], [43], [45], [42], [60], [58]]
def wordsL : List (List Nat) := [[97, 110, 100], [97, 110, 121], [99, 111, 110, 99, 101, 112, 116], [101, 108, 115, 101], [101, 110, 100], [101, 118, 101, 114, 121], [102, 97, 108, 115, 101], [102, 105, 114, 115, 116], [105, 100], [105, 102], [105, 110], [105, 110, 116], [110, 111, 110, 101], [110, 111, 116], [111, 110, 108, 121], [111, 114], [115, 101, 108, 102], [115, 105, 122, 101], [115, 117, 109], [116, 101, 120, 116], [116, 104, 101, 110], [116, 114, 117, 101]]
/-- the program's reading of digits: the number, how many bytes, whether that is all -/
def numScan : List Nat → Nat → Nat → Nat × Nat × Bool
  | [], j, n => (n, j, true)
  | c :: r, j, n => if 48 ≤ c ∧ c ≤ 57 then (if (0 < j ∧ n = 0) ∨ (9223372036854775807 - (c - 48)) / 10 < n then (0, j, false) else numScan r (j + 1) (10 * n + (c - 48))) else (n, j, !furtherN c)
def markN (r : List Nat) : List Nat × Nat := match marksL.find? (fun m => m.isPrefixOf r) with
  | some m => (m, m.length)
  | none => if r.head? = some 33 ∨ r.head? = some 61 then ([], 1) else ([], 0)
/-- the program's token at a place that is no blank and no quote: the token, or none, and how many bytes are right -/
def stepP (r : List Nat) : Option (Nat × List Nat × Int) × Nat := match r with
  | [] => (none, 0)
  | c :: t =>
    if 48 ≤ c ∧ c ≤ 57 then (if (numScan (c :: t) 0 0).2.2 then (some (1, [], (numScan (c :: t) 0 0).1), (numScan (c :: t) 0 0).2.1) else (none, (numScan (c :: t) 0 0).2.1))
    else if letterN c then (if ((c :: t).takeWhile furtherN).length ≤ 32 then (some (if (c :: t).takeWhile furtherN ∈ wordsL then 4 else 3, (c :: t).takeWhile furtherN, 0), ((c :: t).takeWhile furtherN).length) else (none, 32))
    else (if (markN (c :: t)).1 = [] then (none, (markN (c :: t)).2) else (some (5, (markN (c :: t)).1, 0), (markN (c :: t)).2))
/-- the chapter's words -/
def isNumber (s : List Nat) : Option Int := match intN s with
  | some v => if 0 ≤ v then some v else none
  | none => none
def beginsN (s : List Nat) : Bool := (isNumber s).isSome || rightN s || marksL.any (fun m => s.isPrefixOf m)
def wholeN (s : List Nat) : Option (Nat × List Nat × Int) := match isNumber s with
  | some v => some (1, [], v)
  | none => if s ∈ wordsL then some (4, s, 0) else if rightN s then some (3, s, 0) else if s ∈ marksL then some (5, s, 0) else none
def lenFrom (r : List Nat) : Nat → Nat → Nat
  | 0, k => k
  | f + 1, k => if k < r.length ∧ beginsN (r.take (k + 1)) = true then lenFrom r f (k + 1) else k
def stepR (r : List Nat) : Option (Nat × List Nat × Int) × Nat :=
  match wholeN (r.take (lenFrom r r.length 0)) with
  | none => (none, lenFrom r r.length 0)
  | some (k, s, v) => if k ≠ 5 ∧ (∃ c, r[lenFrom r r.length 0]? = some c ∧ furtherN c = true) then (none, lenFrom r r.length 0) else (some (k, s, v), lenFrom r r.length 0)
theorem lenFrom_eq {r : List Nat} {n : Nat} (hn : n ≤ r.length) (h1 : ∀ j, j < n → beginsN (r.take (j + 1)) = true) (h2 : n = r.length ∨ beginsN (r.take (n + 1)) = false) : lenFrom r r.length 0 = n := by
  have key : ∀ (f k : Nat), k ≤ n → n ≤ k + f → lenFrom r f k = n := by
    intro f
    induction f with
    | zero => intro k h3 h4; simp only [lenFrom]; omega
    | succ f ih =>
      intro k h3 h4
      simp only [lenFrom]
      by_cases e : k = n
      · subst e
        rw [if_neg]
        rintro ⟨h5, h6⟩
        rcases h2 with h2 | h2
        · omega
        · rw [h2] at h6; cases h6
      · rw [if_pos ⟨by omega, h1 k (by omega)⟩]
        exact ih (k + 1) (by omega) (by omega)
  exact key r.length 0 (Nat.zero_le _) (by omega)
theorem letter_cases {c : Nat} (h : letterN c = true) : (65 ≤ c ∧ c ≤ 90) ∨ (97 ≤ c ∧ c ≤ 122) := by simpa [letterN] using h
theorem no_mark_letter {c : Nat} (h : letterN c = true) (t : List Nat) : marksL.any (fun m => (c :: t).isPrefixOf m) = false := by
  have := letter_cases h
  simp only [marksL, List.any_cons, List.any_nil, List.isPrefixOf, Bool.or_false]
  simp
  omega
theorem no_mark_digit {c : Nat} (h : 48 ≤ c ∧ c ≤ 57) (t : List Nat) : marksL.any (fun m => (c :: t).isPrefixOf m) = false := by
  simp only [marksL, List.any_cons, List.any_nil, List.isPrefixOf, Bool.or_false]
  simp
  omega
theorem no_number_letter {c : Nat} (h : letterN c = true) (t : List Nat) : isNumber (c :: t) = none := by
  have hl := letter_cases h
  unfold isNumber
  cases hi : intN (c :: t) with
  | none => rfl
  | some v =>
    exfalso
    unfold intN at hi
    rw [if_neg (by simp; omega)] at hi
    split at hi
    · cases hi
    · split at hi
      · rename_i hd
        have := hd c (by simp)
        omega
      · cases hi
theorem no_right_digit {c : Nat} (h : 48 ≤ c ∧ c ≤ 57) (t : List Nat) : rightN (c :: t) = false := by
  have : letterN c = false := by simp [letterN]; omega
  simp [rightN, this]
theorem begins_letter {c : Nat} (h : letterN c = true) (t : List Nat) : beginsN (c :: t) = rightN (c :: t) := by
  simp [beginsN, no_number_letter h, no_mark_letter h]
theorem begins_digit {c : Nat} (h : 48 ≤ c ∧ c ≤ 57) (t : List Nat) : beginsN (c :: t) = (isNumber (c :: t)).isSome := by
  simp [beginsN, no_right_digit h, no_mark_digit h]
theorem takeWhile_all {p : Nat → Bool} : ∀ (l : List Nat), (l.takeWhile p).all p = true
  | [] => rfl
  | a :: l => by
    by_cases h : p a = true
    · rw [List.takeWhile_cons, if_pos h, List.all_cons, h, takeWhile_all l]; rfl
    · rw [List.takeWhile_cons, if_neg h]; rfl
theorem takeWhile_next {p : Nat → Bool} : ∀ (l : List Nat) (c : Nat), l[(l.takeWhile p).length]? = some c → p c = false
  | [], c, h => by simp at h
  | a :: l, c, h => by
    by_cases hp : p a = true
    · rw [List.takeWhile_cons, if_pos hp] at h
      simp only [List.length_cons, List.getElem?_cons_succ] at h
      exact takeWhile_next l c h
    · rw [List.takeWhile_cons, if_neg hp] at h
      simp at h
      subst h
      simpa using hp
theorem take_of_takeWhile {p : Nat → Bool} : ∀ (l : List Nat), l.take (l.takeWhile p).length = l.takeWhile p
  | [] => rfl
  | a :: l => by
    by_cases hp : p a = true
    · rw [List.takeWhile_cons, if_pos hp, List.length_cons, List.take_succ_cons, take_of_takeWhile l]
    · rw [List.takeWhile_cons, if_neg hp]; rfl
theorem takeWhile_le {p : Nat → Bool} : ∀ (l : List Nat), (l.takeWhile p).length ≤ l.length
  | [] => Nat.le_refl _
  | a :: l => by
    by_cases hp : p a = true
    · rw [List.takeWhile_cons, if_pos hp, List.length_cons, List.length_cons]; have := takeWhile_le (p := p) l; omega
    · rw [List.takeWhile_cons, if_neg hp]; simp
theorem step_letter {c : Nat} (h : letterN c = true) (t : List Nat) : stepR (c :: t) = stepP (c :: t) := by
  have hl := letter_cases h
  have hf : furtherN c = true := by simp [furtherN, h]
  obtain ⟨run, hrun⟩ : ∃ run, (c :: t).takeWhile furtherN = run := ⟨_, rfl⟩
  have hall : run.all furtherN = true := by rw [← hrun]; exact takeWhile_all _
  have hle : run.length ≤ (c :: t).length := by rw [← hrun]; exact takeWhile_le _
  have htk : (c :: t).take run.length = run := by rw [← hrun]; exact take_of_takeWhile _
  have hrc : ∃ u, run = c :: u := ⟨t.takeWhile furtherN, by rw [← hrun, List.takeWhile_cons, if_pos hf]⟩
  obtain ⟨u, hu⟩ := hrc
  have hbeg : ∀ j, j < run.length → j < 32 → beginsN ((c :: t).take (j + 1)) = true := by
    intro j h1 h2
    have e : (c :: t).take (j + 1) = run.take (j + 1) := by rw [← htk, List.take_take, Nat.min_eq_left (by omega)]
    rw [List.take_succ_cons, begins_letter h]
    rw [← List.take_succ_cons, e, hu, List.take_succ_cons]
    simp only [rightN, Bool.and_eq_true, decide_eq_true_eq, List.length_cons]
    refine ⟨⟨by rw [List.length_take]; omega, h⟩, ?_⟩
    rw [hu, List.all_cons, Bool.and_eq_true] at hall
    rw [List.all_cons, hf, Bool.true_and, List.all_eq_true]
    rw [List.all_eq_true] at hall
    exact fun x hx => hall.2 x (List.mem_of_mem_take hx)
  have hP : stepP (c :: t) = (if run.length ≤ 32 then (some (if run ∈ wordsL then 4 else 3, run, 0), run.length) else (none, 32)) := by
    simp only [stepP]
    rw [if_neg (by omega), if_pos h, hrun]
  rw [hP]
  by_cases h32 : run.length ≤ 32
  · rw [if_pos h32]
    have hn : lenFrom (c :: t) (c :: t).length 0 = run.length := by
      refine lenFrom_eq hle (fun j hj => hbeg j hj (by omega)) ?_
      by_cases e : run.length = (c :: t).length
      · exact Or.inl e
      · right
        obtain ⟨d, hd⟩ : ∃ d, (c :: t)[run.length]? = some d := ⟨_, List.getElem?_eq_getElem (by omega)⟩
        have hnf : furtherN d = false := takeWhile_next (p := furtherN) (c :: t) d (by rw [hrun]; exact hd)
        have hk := (List.getElem?_eq_some_iff.1 hd).1
        have e2 : (c :: t).take (run.length + 1) = run ++ [d] := by
          rw [List.take_succ_eq_append_getElem hk, (List.getElem?_eq_some_iff.1 hd).2, htk]
        rw [e2, hu, List.cons_append, begins_letter h]
        simp only [rightN, List.all_cons, List.all_append, List.all_nil, hnf]
        simp
    have hright : rightN run = true := by
      rw [hu]
      rw [hu] at hall h32
      simp only [rightN, Bool.and_eq_true, decide_eq_true_eq]
      exact ⟨⟨h32, h⟩, hall⟩
    have hw : wholeN run = some (if run ∈ wordsL then 4 else 3, run, 0) := by
      unfold wholeN
      rw [hu, no_number_letter h]
      simp only
      by_cases hm : c :: u ∈ wordsL
      · rw [if_pos hm, if_pos hm]
      · rw [if_neg hm, if_neg hm, ← hu, if_pos hright]
    unfold stepR
    rw [hn, htk, hw]
    simp only
    rw [if_neg]
    rintro ⟨_, d, hd, hfd⟩
    have := takeWhile_next (p := furtherN) (c :: t) d (by rw [hrun]; exact hd)
    rw [hfd] at this
    cases this
  · rw [if_neg h32]
    have hn : lenFrom (c :: t) (c :: t).length 0 = 32 := by
      refine lenFrom_eq (by omega) (fun j hj => hbeg j (by omega) hj) (Or.inr ?_)
      rw [List.take_succ_cons, begins_letter h]
      have : ((c :: t).take (32 + 1)).length = 33 := by rw [List.length_take]; omega
      rw [List.take_succ_cons] at this
      simp only [rightN]
      rw [this]
      rfl
    obtain ⟨d, hd⟩ : ∃ d, (c :: t)[32]? = some d := ⟨_, List.getElem?_eq_getElem (by omega)⟩
    have hfd : furtherN d = true := by
      have hd' : run[32]? = some d := by
        rw [← htk, List.getElem?_take_of_lt (by omega)]; exact hd
      exact List.all_eq_true.1 hall d (List.mem_iff_getElem?.2 ⟨32, hd'⟩)
    unfold stepR
    rw [hn]
    have hw : ∃ k s v, wholeN ((c :: t).take 32) = some (k, s, v) ∧ k ≠ 5 := by
      have hr : rightN ((c :: t).take 32) = true := by
        have := hbeg 31 (by omega) (by omega)
        rw [List.take_succ_cons, begins_letter h] at this
        exact this
      unfold wholeN
      rw [List.take_succ_cons, no_number_letter h]
      simp only
      by_cases hm : c :: t.take 31 ∈ wordsL
      · exact ⟨4, _, 0, if_pos hm, by omega⟩
      · rw [if_neg hm]
        rw [List.take_succ_cons] at hr
        exact ⟨3, _, 0, if_pos hr, by omega⟩
    obtain ⟨k, s, v, hw, hk⟩ := hw
    rw [hw]
    simp only
    rw [if_pos ⟨hk, d, hd, hfd⟩]
end Go.Proofs.YtidkbodmiegbkaaGreatDoor
namespace Go.Proofs.YtidkbodmiegbkaaGreatDoor
set_option linter.unusedSimpArgs false
set_option linter.unusedVariables false
/-- digits that are a number's text -/
def okNum (l : List Nat) : Prop := Digits l ∧ l ≠ [] ∧ (l.head? ≠ some 48 ∨ l.length = 1) ∧ val 0 l ≤ 9223372036854775807
instance (l : List Nat) : Decidable (okNum l) := inferInstanceAs (Decidable (_ ∧ _))
theorem isNumber_ok {l : List Nat} (h : okNum l) : isNumber l = some (val 0 l : Int) := by
  obtain ⟨h1, h2, h3, h4⟩ := h
  have hd := dec_val _ l rfl h2 h1 h3
  have hi := intN_show (v := (val 0 l : Int)) (by omega) (by omega)
  have hs : showN (val 0 l : Int) = l := by unfold showN; rw [if_neg (by omega), Int.toNat_natCast, hd]
  rw [hs] at hi
  unfold isNumber
  rw [hi]
  exact if_pos (by omega)
theorem ok_isNumber {l : List Nat} {v : Int} (h : isNumber l = some v) : okNum l := by
  unfold isNumber at h
  cases hi : intN l with
  | none => rw [hi] at h; cases h
  | some u =>
    rw [hi] at h
    simp only at h
    split at h
    · rename_i h0
      obtain ⟨_, h1, hs, _⟩ := intN_some hi
      have hl : dec u.toNat = l := by rw [← hs]; unfold showN; rw [if_neg (by omega)]
      refine ⟨hl ▸ dec_digits _, hl ▸ dec_ne _, ?_, ?_⟩
      · by_cases e : u.toNat = 0
        · right; rw [← hl, e, dec_small (by omega)]; rfl
        · left; rw [← hl]; exact dec_head _ e
      · rw [← hl, val_dec]; omega
    · cases h
theorem isNumber_iff (l : List Nat) : (isNumber l).isSome = decide (okNum l) := by
  by_cases h : okNum l
  · rw [isNumber_ok h]; simp [h]
  · cases hi : isNumber l with
    | none => simp [h]
    | some v => exact absurd (ok_isNumber hi) h
theorem val_snoc (p : List Nat) (c : Nat) : val 0 (p ++ [c]) = 10 * val 0 p + (c - 48) := by rw [val_app]; rfl
theorem numScan_spec : ∀ (r p : List Nat), (p = [] ∨ okNum p) → ∃ m, m ≤ r.length ∧ (∀ i, i < m → okNum (p ++ r.take (i + 1))) ∧ (m = r.length ∨ ¬ okNum (p ++ r.take (m + 1))) ∧ (numScan r p.length (val 0 p)).2.1 = p.length + m ∧ ((∃ c, r[m]? = some c ∧ furtherN c = true) → (numScan r p.length (val 0 p)).2.2 = false) ∧ ((¬ ∃ c, r[m]? = some c ∧ furtherN c = true) → (numScan r p.length (val 0 p)).2.2 = true ∧ (numScan r p.length (val 0 p)).1 = val 0 (p ++ r.take m))
  | [], p, hp => ⟨0, by simp, fun i hi => by omega, Or.inl rfl, rfl, fun ⟨c, h, _⟩ => by simp at h, fun _ => ⟨rfl, by simp [numScan]⟩⟩
  | c :: r, p, hp => by
    by_cases hd : 48 ≤ c ∧ c ≤ 57
    · by_cases hb : (0 < p.length ∧ val 0 p = 0) ∨ (9223372036854775807 - (c - 48)) / 10 < val 0 p
      · have hn : numScan (c :: r) p.length (val 0 p) = (0, p.length, false) := by simp only [numScan]; rw [if_pos hd, if_pos hb]
        have hf : furtherN c = true := by simp [furtherN]; omega
        refine ⟨0, by simp, fun i hi => by omega, Or.inr ?_, by rw [hn]; rfl, fun _ => by rw [hn], fun h => absurd ⟨c, rfl, hf⟩ h⟩
        rintro ⟨g1, g2, g3, g4⟩
        simp only [Nat.zero_add, List.take_succ_cons, List.take_zero] at g1 g2 g3 g4
        rw [val_snoc] at g4
        rcases hb with ⟨b1, b2⟩ | hb
        · rcases hp with rfl | hp
          · simp at b1
          · have hdv := dec_val _ p rfl hp.2.1 hp.1 hp.2.2.1
            rw [b2, dec_small (by omega)] at hdv
            rw [← hdv] at g3
            simp at g3
        · omega
      · have hn : numScan (c :: r) p.length (val 0 p) = numScan r (p ++ [c]).length (val 0 (p ++ [c])) := by
          rw [numScan, if_pos hd, if_neg hb, val_snoc, List.length_append]; rfl
        have hok : okNum (p ++ [c]) := by
          refine ⟨?_, by simp, ?_, by rw [val_snoc]; omega⟩
          · intro x hx
            rcases List.mem_append.1 hx with hx | hx
            · rcases hp with rfl | hp
              · simp at hx
              · exact hp.1 x hx
            · simp at hx; omega
          · rcases hp with rfl | hp
            · right; rfl
            · left
              cases p with
              | nil => exact absurd rfl hp.2.1
              | cons a p =>
                rw [List.cons_append, List.head?_cons]
                intro e
                injection e with e
                subst e
                rcases hp.2.2.1 with h | h
                · simp at h
                · have : p = [] := by simpa using h
                  subst this
                  exact hb (Or.inl ⟨by simp, rfl⟩)
        obtain ⟨m, k1, k2, k3, k4, k5, k6⟩ := numScan_spec r (p ++ [c]) (Or.inr hok)
        have e : ∀ i, p ++ (c :: r).take (i + 1) = (p ++ [c]) ++ r.take i := fun i => by rw [List.take_succ_cons, List.append_assoc]; rfl
        rw [hn]
        refine ⟨m + 1, by simp; exact k1, fun i hi => ?_, ?_, by rw [k4, List.length_append]; simp; omega, fun h => k5 (by simpa using h), fun h => ?_⟩
        · rw [e]
          rcases i with _ | i
          · simpa using hok
          · exact k2 i (by omega)
        · rw [e]
          rcases k3 with k3 | k3
          · left; rw [List.length_cons, k3]
          · exact Or.inr k3
        · rw [e]
          exact k6 (by simpa using h)
    · have hn : numScan (c :: r) p.length (val 0 p) = (val 0 p, p.length, !furtherN c) := by simp only [numScan]; rw [if_neg hd]
      rw [hn]
      refine ⟨0, by simp, fun i hi => by omega, Or.inr ?_, rfl, ?_, ?_⟩
      · rintro ⟨g1, _⟩
        have := g1 c (by simp)
        omega
      · rintro ⟨d, h, hf⟩
        simp at h
        subst h
        simp [hf]
      · intro h
        refine ⟨?_, by simp⟩
        cases hf : furtherN c with
        | false => rfl
        | true => exact absurd ⟨c, rfl, hf⟩ h
theorem step_digit {c : Nat} (h : 48 ≤ c ∧ c ≤ 57) (t : List Nat) : stepR (c :: t) = stepP (c :: t) := by
  obtain ⟨m, h1, h2, h3, h4, h5, h6⟩ := numScan_spec (c :: t) [] (Or.inl rfl)
  have hv : val 0 [] = 0 := rfl
  simp only [List.nil_append, List.length_nil, Nat.zero_add, hv] at h2 h3 h4 h5 h6
  have hb : ∀ j, beginsN ((c :: t).take (j + 1)) = decide (okNum ((c :: t).take (j + 1))) := fun j => by
    rw [List.take_succ_cons, begins_digit h, isNumber_iff]
  have hok1 : okNum [c] := ⟨fun x hx => by simp at hx; omega, by simp, Or.inr rfl, by simp [val]; omega⟩
  have hm : m ≠ 0 := by
    rintro rfl
    rcases h3 with h3 | h3
    · simp at h3
    · exact h3 hok1
  have hn : lenFrom (c :: t) (c :: t).length 0 = m := by
    refine lenFrom_eq h1 (fun j hj => by rw [hb]; exact decide_eq_true (h2 j hj)) ?_
    rcases h3 with h3 | h3
    · exact Or.inl h3
    · right; rw [hb]; exact decide_eq_false h3
  have hw : wholeN ((c :: t).take m) = some (1, [], (val 0 ((c :: t).take m) : Int)) := by
    obtain ⟨j, rfl⟩ : ∃ j, m = j + 1 := ⟨m - 1, by omega⟩
    unfold wholeN
    rw [isNumber_ok (h2 j (by omega))]
  unfold stepR
  rw [hn, hw]
  simp only [stepP]
  rw [if_pos h, h4]
  by_cases hx : ∃ d, (c :: t)[m]? = some d ∧ furtherN d = true
  · rw [if_pos ⟨by decide, hx⟩, h5 hx]; rfl
  · rw [if_neg (fun h => hx h.2), (h6 hx).1, (h6 hx).2]; rfl
theorem no_number {c : Nat} (h : ¬ (48 ≤ c ∧ c ≤ 57)) (t : List Nat) : isNumber (c :: t) = none := by
  cases hi : isNumber (c :: t) with
  | none => rfl
  | some v => exact absurd ((ok_isNumber hi).1 c (by simp)) h
theorem words_letter : wordsL.all (fun m => match m with | [] => false | a :: _ => letterN a) = true := by decide
theorem no_word {c : Nat} (h : letterN c = false) (t : List Nat) : c :: t ∉ wordsL := by
  intro hm
  have := List.all_eq_true.1 words_letter _ hm
  simp only at this
  rw [h] at this
  cases this
theorem begins_mark {c : Nat} (h1 : ¬ (48 ≤ c ∧ c ≤ 57)) (h2 : letterN c = false) (t : List Nat) : beginsN (c :: t) = marksL.any (fun m => (c :: t).isPrefixOf m) := by
  simp [beginsN, no_number h1, rightN, h2]
theorem whole_mark {c : Nat} (h1 : ¬ (48 ≤ c ∧ c ≤ 57)) (h2 : letterN c = false) (t : List Nat) : wholeN (c :: t) = if c :: t ∈ marksL then some (5, c :: t, 0) else none := by
  unfold wholeN
  rw [no_number h1]
  simp only
  rw [if_neg (no_word h2 t), if_neg (by simp [rightN, h2])]
theorem stepR_mark {r s : List Nat} {n : Nat} (hn : lenFrom r r.length 0 = n) (hw : wholeN (r.take n) = some (5, s, 0)) : stepR r = (some (5, s, 0), n) := by
  unfold stepR
  rw [hn, hw]
  simp only
  rw [if_neg (fun h => h.1 rfl)]
theorem stepR_none {r : List Nat} {n : Nat} (hn : lenFrom r r.length 0 = n) (hw : wholeN (r.take n) = none) : stepR r = (none, n) := by
  unfold stepR
  rw [hn, hw]
theorem whole_nil : wholeN [] = none := by decide
/-- the marks' first bytes -/
def firstsL : List Nat := [45, 33, 61, 60, 46, 35, 94, 63, 40, 41, 43, 42, 58]
theorem begins_one (c : Nat) : marksL.any (fun m => [c].isPrefixOf m) = decide (c ∈ firstsL) := by
  simp [marksL, firstsL, List.isPrefixOf]
  grind
theorem begins_two (c d : Nat) : marksL.any (fun m => [c, d].isPrefixOf m) = decide ((c = 45 ∧ d = 62) ∨ (c = 33 ∧ d = 33) ∨ (c = 33 ∧ d = 61) ∨ (c = 61 ∧ d = 61) ∨ (c = 60 ∧ d = 61)) := by
  simp [marksL, List.isPrefixOf]
  grind
theorem begins_three (c d e : Nat) (t : List Nat) : marksL.any (fun m => (c :: d :: e :: t).isPrefixOf m) = false := by
  simp [marksL, List.isPrefixOf]
theorem step_mark {c : Nat} (h1 : ¬ (48 ≤ c ∧ c ≤ 57)) (h2 : letterN c = false) (t : List Nat) : stepR (c :: t) = stepP (c :: t) := by
  have hb := begins_mark h1 h2
  have hw := whole_mark h1 h2
  have hP : stepP (c :: t) = (if (markN (c :: t)).1 = [] then (none, (markN (c :: t)).2) else (some (5, (markN (c :: t)).1, 0), (markN (c :: t)).2)) := by
    simp only [stepP]
    rw [if_neg h1, if_neg (by rw [h2]; simp)]
  rw [hP]
  by_cases hc : c ∈ firstsL
  · match t with
    | [] =>
      have hn : lenFrom [c] [c].length 0 = 1 := by
        refine lenFrom_eq (by simp) (fun j hj => ?_) (Or.inl rfl)
        obtain rfl : j = 0 := by omega
        show beginsN [c] = true
        rw [hb, begins_one]; exact decide_eq_true hc
      by_cases hm : [c] ∈ marksL
      · rw [stepR_mark hn (by show wholeN [c] = _; rw [hw, if_pos hm])]
        clear hn hP hw hb h2 h1
        simp only [firstsL, List.mem_cons, List.not_mem_nil, or_false] at hc
        rcases hc with rfl | rfl | rfl | rfl | rfl | rfl | rfl | rfl | rfl | rfl | rfl | rfl | rfl <;> first | rfl | (exact absurd hm (by decide))
      · rw [stepR_none hn (by show wholeN [c] = _; rw [hw, if_neg hm])]
        clear hn hP hw hb h2 h1
        simp only [firstsL, List.mem_cons, List.not_mem_nil, or_false] at hc
        rcases hc with rfl | rfl | rfl | rfl | rfl | rfl | rfl | rfl | rfl | rfl | rfl | rfl | rfl <;> first | rfl | (exact absurd (by decide) hm)
    | d :: u =>
      by_cases hd : (c = 45 ∧ d = 62) ∨ (c = 33 ∧ d = 33) ∨ (c = 33 ∧ d = 61) ∨ (c = 61 ∧ d = 61) ∨ (c = 60 ∧ d = 61)
      · have hn : lenFrom (c :: d :: u) (c :: d :: u).length 0 = 2 := by
          refine lenFrom_eq (by simp) (fun j hj => ?_) ?_
          · rcases j with _ | _ | j
            · show beginsN [c] = true
              rw [hb, begins_one]; exact decide_eq_true hc
            · show beginsN [c, d] = true
              rw [hb, begins_two]; exact decide_eq_true hd
            · omega
          · match u with
            | [] => exact Or.inl rfl
            | e :: u => right; show beginsN [c, d, e] = false; rw [hb, begins_three]
        have hm : [c, d] ∈ marksL := by rcases hd with ⟨rfl, rfl⟩ | ⟨rfl, rfl⟩ | ⟨rfl, rfl⟩ | ⟨rfl, rfl⟩ | ⟨rfl, rfl⟩ <;> decide
        rw [stepR_mark hn (by show wholeN [c, d] = _; rw [hw, if_pos hm])]
        rcases hd with ⟨rfl, rfl⟩ | ⟨rfl, rfl⟩ | ⟨rfl, rfl⟩ | ⟨rfl, rfl⟩ | ⟨rfl, rfl⟩ <;> simp [markN, marksL, List.find?, List.isPrefixOf]
      · have hn : lenFrom (c :: d :: u) (c :: d :: u).length 0 = 1 := by
          refine lenFrom_eq (by simp) (fun j hj => ?_) (Or.inr ?_)
          · obtain rfl : j = 0 := by omega
            show beginsN [c] = true
            rw [hb, begins_one]; exact decide_eq_true hc
          · show beginsN [c, d] = false
            rw [hb, begins_two]; exact decide_eq_false hd
        by_cases hm : [c] ∈ marksL
        · rw [stepR_mark hn (by show wholeN [c] = _; rw [hw, if_pos hm])]
          clear hn hP hw hb h2 h1
          simp only [firstsL, List.mem_cons, List.not_mem_nil, or_false] at hc
          rcases hc with rfl | rfl | rfl | rfl | rfl | rfl | rfl | rfl | rfl | rfl | rfl | rfl | rfl <;> first | (exact absurd hm (by decide)) | (simp at hd; simp [markN, marksL, List.find?, List.isPrefixOf]; done) | (simp at hd; simp [markN, marksL, List.find?, List.isPrefixOf]; grind)
        · rw [stepR_none hn (by show wholeN [c] = _; rw [hw, if_neg hm])]
          clear hn hP hw hb h2 h1
          simp only [firstsL, List.mem_cons, List.not_mem_nil, or_false] at hc
          rcases hc with rfl | rfl | rfl | rfl | rfl | rfl | rfl | rfl | rfl | rfl | rfl | rfl | rfl <;> first | (exact absurd (by decide) hm) | (simp at hd; simp [markN, marksL, List.find?, List.isPrefixOf]; done) | (simp at hd; simp [markN, marksL, List.find?, List.isPrefixOf]; grind)
  · have hn : lenFrom (c :: t) (c :: t).length 0 = 0 := by
      refine lenFrom_eq (Nat.zero_le _) (fun j hj => by omega) (Or.inr ?_)
      show beginsN [c] = false
      rw [hb, begins_one]; exact decide_eq_false hc
    rw [stepR_none hn (by exact whole_nil)]
    have hf : marksL.find? (fun m => m.isPrefixOf (c :: t)) = none := by
      simp [firstsL] at hc
      rw [List.find?_eq_none]
      intro m hm
      simp only [marksL, List.mem_cons, List.not_mem_nil, or_false] at hm
      rcases hm with rfl | rfl | rfl | rfl | rfl | rfl | rfl | rfl | rfl | rfl | rfl | rfl | rfl | rfl | rfl | rfl <;> simp [List.isPrefixOf] <;> omega
    have hm : markN (c :: t) = ([], 0) := by
      unfold markN
      rw [hf]
      simp [firstsL] at hc
      simp only
      rw [if_neg (by simp; omega)]
    rw [hm, if_pos rfl]
/-- at each place the two readings take the same step -/
theorem step_same (r : List Nat) : stepR r = stepP r := by
  cases r with
  | nil => decide
  | cons c t =>
    by_cases h1 : 48 ≤ c ∧ c ≤ 57
    · exact step_digit h1 t
    · cases h2 : letterN c with
      | true => exact step_letter h2 t
      | false => exact step_mark h1 h2 t
end Go.Proofs.YtidkbodmiegbkaaGreatDoor
namespace Go.Proofs.YtidkbodmiegbkaaGreatDoor
set_option linter.unusedSimpArgs false
set_option linter.unusedVariables false
theorem unq_some : ∀ (f i : Nat) (l o s : List Nat) (k : Nat), Bytes l → Bytes o → unq l f i o = (s, k, 0) → Bytes s ∧ i < k ∧ k ≤ l.length
  | 0, i, l, o, s, k, _, _, h => by simp [unq] at h
  | f + 1, i, l, o, s, k, hl, ho, h => by
    rw [unq] at h
    split at h
    · rename_i hi
      injection h with h1 h2
      injection h2 with h2 _
      subst h1 h2
      exact ⟨ho, by omega, (List.getElem?_eq_some_iff.1 hi).1⟩
    · rename_i hi
      split at h
      · rename_i c n m hone
        have hd : Bytes (l.drop i) := fun x hx => hl x (List.mem_of_mem_drop hx)
        obtain ⟨c1, c2, _⟩ := one_some hd (by rw [List.head?_drop]; exact hi) hone
        have := (form_len c).1
        obtain ⟨a1, a2, a3⟩ := unq_some f (i + n) l (o ++ [c]) s k hl (bytes_app ho (fun x hx => by simp at hx; omega)) h
        exact ⟨a1, by omega, a3⟩
      · simp at h
theorem unq_err8 : ∀ (f i : Nat) (l o s : List Nat) (k e : Nat), unq l f i o = (s, k, e) → e ≠ 0 → e = 10
  | 0, i, l, o, s, k, e, h, _ => by simp [unq] at h; omega
  | f + 1, i, l, o, s, k, e, h, he => by
    rw [unq] at h
    split at h
    · simp at h; omega
    · split at h
      · exact unq_err8 f _ l _ s k e h he
      · simp at h; omega
/-- how a text in quotes is read from a place on -/
def quoteAt (l : List Nat) (i : Nat) : List Nat × Nat × Nat := unq l (l.length + 1) (i + 1) []
theorem unquote_at {l : List Nat} {i : Nat} (h : l[i]? = some 34) : unquoteN l i = ((quoteAt l i).1, ((quoteAt l i).2.1 : Int), (quoteAt l i).2.2) := by
  have := (List.getElem?_eq_some_iff.1 h).1
  unfold unquoteN quoteAt
  rw [if_neg (by omega), Int.toNat_natCast, if_neg (by rw [h]; simp)]
def scanT (l : List Nat) : Nat → Nat → List Tok → List Tok × Nat × Nat
  | 0, _, out => (out, 0, 0)
  | f + 1, i, out => match l[i]? with
    | none => (out, 0, 0)
    | some c =>
      if c = 32 ∨ c = 10 then scanT l f (i + 1) out
      else if c = 34 then (if (quoteAt l i).2.2 = 0 then scanT l f (quoteAt l i).2.1 (out ++ [⟨2, (quoteAt l i).1, 0, i⟩]) else ([], (quoteAt l i).2.1, 70))
      else match (stepP (l.drop i)).1 with
        | some (k, s, v) => scanT l f (i + (stepP (l.drop i)).2) (out ++ [⟨k, s, v, i⟩])
        | none => ([], i + (stepP (l.drop i)).2, 70)
/-- what a text is cut into: tokens, a place, an error -/
def scanN (l : List Nat) : List Tok × Nat × Nat := if 4096 < l.length then ([], 0, 3) else scanT l (l.length + 1) 0 []
theorem scan_end {l : List Nat} {f i : Nat} {o : List Tok} {R : List Tok × Nat × Nat} (h : scanT l f i o = R) (hi : l.length ≤ i) : R = (o, 0, 0) := by
  cases f with
  | zero => exact h.symm
  | succ f => rw [scanT, List.getElem?_eq_none hi] at h; exact h.symm
theorem scan_blank {l : List Nat} {f i c : Nat} {o : List Tok} {R : List Tok × Nat × Nat} (h : scanT l f i o = R) (hf : 1 ≤ f) (hi : l[i]? = some c) (hc : c = 32 ∨ c = 10) : scanT l (f - 1) (i + 1) o = R := by
  obtain ⟨f, rfl⟩ : ∃ g, f = g + 1 := ⟨f - 1, by omega⟩
  rw [scanT, hi] at h
  simp only at h
  rw [if_pos hc] at h
  exact h
theorem scan_quote {l : List Nat} {f i k : Nat} {s : List Nat} {o : List Tok} {R : List Tok × Nat × Nat} (h : scanT l f i o = R) (hf : 1 ≤ f) (hi : l[i]? = some 34) (hq : quoteAt l i = (s, k, 0)) : scanT l (f - 1) k (o ++ [⟨2, s, 0, i⟩]) = R := by
  obtain ⟨f, rfl⟩ : ∃ g, f = g + 1 := ⟨f - 1, by omega⟩
  rw [scanT, hi] at h
  simp only at h
  rw [if_neg (by omega), if_pos trivial, hq, if_pos rfl] at h
  exact h
theorem scan_quote_no {l : List Nat} {f i k e : Nat} {s : List Nat} {o : List Tok} {R : List Tok × Nat × Nat} (h : scanT l f i o = R) (hf : 1 ≤ f) (hi : l[i]? = some 34) (hq : quoteAt l i = (s, k, e)) (he : e ≠ 0) : R = ([], k, 70) := by
  obtain ⟨f, rfl⟩ : ∃ g, f = g + 1 := ⟨f - 1, by omega⟩
  rw [scanT, hi] at h
  simp only at h
  rw [if_neg (by omega), if_pos trivial, hq, if_neg he] at h
  exact h.symm
theorem scan_step {l : List Nat} {f i c k n : Nat} {s : List Nat} {v : Int} {o : List Tok} {R : List Tok × Nat × Nat} (h : scanT l f i o = R) (hf : 1 ≤ f) (hi : l[i]? = some c) (hc : ¬ (c = 32 ∨ c = 10)) (hq : c ≠ 34) (hs : stepP (l.drop i) = (some (k, s, v), n)) : scanT l (f - 1) (i + n) (o ++ [⟨k, s, v, i⟩]) = R := by
  obtain ⟨f, rfl⟩ : ∃ g, f = g + 1 := ⟨f - 1, by omega⟩
  rw [scanT, hi] at h
  simp only at h
  rw [if_neg hc, if_neg hq, hs] at h
  exact h
theorem scan_step_no {l : List Nat} {f i c n : Nat} {o : List Tok} {R : List Tok × Nat × Nat} (h : scanT l f i o = R) (hf : 1 ≤ f) (hi : l[i]? = some c) (hc : ¬ (c = 32 ∨ c = 10)) (hq : c ≠ 34) (hs : stepP (l.drop i) = (none, n)) : R = ([], i + n, 70) := by
  obtain ⟨f, rfl⟩ : ∃ g, f = g + 1 := ⟨f - 1, by omega⟩
  rw [scanT, hi] at h
  simp only at h
  rw [if_neg hc, if_neg hq, hs] at h
  exact h.symm
/-- a token takes one byte at least, and no more than there are; its text is of bytes -/
theorem lenFrom_le (r : List Nat) : ∀ (f k : Nat), k ≤ r.length → lenFrom r f k ≤ r.length
  | 0, k, h => h
  | f + 1, k, h => by
    simp only [lenFrom]
    split
    · exact lenFrom_le r f (k + 1) (by omega)
    · exact h
theorem step_some {r : List Nat} {k n : Nat} {s : List Nat} {v : Int} (hr : Bytes r) (h : stepP r = (some (k, s, v), n)) : 1 ≤ n ∧ n ≤ r.length ∧ Bytes s ∧ k < 6 ∧ -9223372036854775808 ≤ v ∧ v ≤ 9223372036854775807 := by
  rw [← step_same] at h
  unfold stepR at h
  have hle := lenFrom_le r r.length 0 (Nat.zero_le _)
  generalize lenFrom r r.length 0 = m at h hle
  cases hw : wholeN (r.take m) with
  | none => rw [hw] at h; simp at h
  | some t =>
    obtain ⟨k', s', v'⟩ := t
    rw [hw] at h
    simp only at h
    split at h
    · simp at h
    · simp only [Prod.mk.injEq, Option.some.injEq] at h
      obtain ⟨⟨rfl, rfl, rfl⟩, rfl⟩ := h
      have h0 : m ≠ 0 := by
        rintro rfl
        rw [List.take_zero, whole_nil] at hw
        cases hw
      have hb : Bytes (r.take m) := fun x hx => hr x (List.mem_of_mem_take hx)
      refine ⟨by omega, hle, ?_⟩
      unfold wholeN at hw
      split at hw
      · rename_i u hu
        simp only [Option.some.injEq, Prod.mk.injEq] at hw
        obtain ⟨rfl, rfl, rfl⟩ := hw
        have hok := ok_isNumber hu
        rw [isNumber_ok hok] at hu
        injection hu with hu
        refine ⟨bytes_nil, by omega, ?_⟩
        have := hok.2.2.2
        omega
      · split at hw
        · simp only [Option.some.injEq, Prod.mk.injEq] at hw
          obtain ⟨rfl, rfl, rfl⟩ := hw
          exact ⟨hb, by omega, by omega⟩
        · split at hw
          · simp only [Option.some.injEq, Prod.mk.injEq] at hw
            obtain ⟨rfl, rfl, rfl⟩ := hw
            exact ⟨hb, by omega, by omega⟩
          · split at hw
            · simp only [Option.some.injEq, Prod.mk.injEq] at hw
              obtain ⟨rfl, rfl, rfl⟩ := hw
              exact ⟨hb, by omega, by omega⟩
            · cases hw
end Go.Proofs.YtidkbodmiegbkaaGreatDoor
namespace Go.Proofs.YtidkbodmiegbkaaGreatDoor
set_option linter.unusedSimpArgs false
set_option linter.unusedVariables false
open Go.RowKit
theorem lex_letter_any (n : Nat) (w : World) : Calls Tryz.prog 57 #[.int .u8 (n : Int)] w fun e w' => e = .returned (.bool (letterN n)) ∧ Quiet w w' := by
  by_cases h1 : 65 ≤ n
  · by_cases h2 : n ≤ 90
    · have hv : letterN n = true := by simp [letterN]; omega
      rw [hv]; clear hv
      go_enter Tryz.func57, Tryz.ntmps57
      go_wp2_with fail
      go_ret
      exact ⟨rfl, Quiet.refl _⟩
    · have a2 : decide ((n : Int) ≤ 90) = false := by simp; omega
      by_cases h3 : 97 ≤ n
      · by_cases h4 : n ≤ 122
        · have hv : letterN n = true := by simp [letterN]; omega
          have a4 : decide ((n : Int) ≤ 122) = true := by simp; omega
          rw [hv]; clear hv
          go_enter Tryz.func57, Tryz.ntmps57
          go_wp2_with fail
          go_ret
          exact ⟨rfl, Quiet.refl _⟩
        · have hv : letterN n = false := by simp [letterN]; omega
          have a4 : decide ((n : Int) ≤ 122) = false := by simp; omega
          rw [hv]; clear hv
          go_enter Tryz.func57, Tryz.ntmps57
          go_wp2_with fail
          go_ret
          exact ⟨rfl, Quiet.refl _⟩
      · have hv : letterN n = false := by simp [letterN]; omega
        have a3 : decide (97 ≤ (n : Int)) = false := by simp; omega
        rw [hv]; clear hv
        go_enter Tryz.func57, Tryz.ntmps57
        go_wp2_with fail
        go_ret
        exact ⟨rfl, Quiet.refl _⟩
  · have hv : letterN n = false := by simp [letterN]; omega
    have a1 : decide (65 ≤ (n : Int)) = false := by simp; omega
    have a3 : decide (97 ≤ (n : Int)) = false := by simp; omega
    have h3 : ¬ 97 ≤ n := by omega
    rw [hv]; clear hv
    go_enter Tryz.func57, Tryz.ntmps57
    go_wp2_with fail
    go_ret
    exact ⟨rfl, Quiet.refl _⟩
theorem lex_letter (n : Nat) (b : Bool) (hb : letterN n = b) (w : World) : Calls Tryz.prog 57 #[.int .u8 (n : Int)] w fun e w' => e = .returned (.bool b) ∧ Quiet w w' := hb ▸ lex_letter_any n w
def figN (n : Nat) : Bool := decide (48 ≤ n ∧ n ≤ 57)
theorem lex_digit_any (n : Nat) (w : World) : Calls Tryz.prog 55 #[.int .u8 (n : Int)] w fun e w' => e = .returned (.bool (figN n)) ∧ Quiet w w' := by
  by_cases h1 : 48 ≤ n
  · by_cases h2 : n ≤ 57
    · have hv : figN n = true := by simp [figN]; omega
      have a2 : decide ((n : Int) ≤ 57) = true := by simp; omega
      rw [hv]; clear hv
      go_enter Tryz.func55, Tryz.ntmps55
      go_wp2_with fail
      go_ret
      exact ⟨rfl, Quiet.refl _⟩
    · have hv : figN n = false := by simp [figN]; omega
      have a2 : decide ((n : Int) ≤ 57) = false := by simp; omega
      rw [hv]; clear hv
      go_enter Tryz.func55, Tryz.ntmps55
      go_wp2_with fail
      go_ret
      exact ⟨rfl, Quiet.refl _⟩
  · have hv : figN n = false := by simp [figN]; omega
    have a1 : decide (48 ≤ (n : Int)) = false := by simp; omega
    rw [hv]; clear hv
    go_enter Tryz.func55, Tryz.ntmps55
    go_wp2_with fail
    go_ret
    exact ⟨rfl, Quiet.refl _⟩
theorem lex_digit (n : Nat) (b : Bool) (hb : figN n = b) (w : World) : Calls Tryz.prog 55 #[.int .u8 (n : Int)] w fun e w' => e = .returned (.bool b) ∧ Quiet w w' := hb ▸ lex_digit_any n w
theorem lex_further_any (n : Nat) (w : World) : Calls Tryz.prog 53 #[.int .u8 (n : Int)] w fun e w' => e = .returned (.bool (furtherN n)) ∧ Quiet w w' := by
  rcases hl : letterN n with _ | _
  · rcases hd : figN n with _ | _
    · have hd' : ¬ (48 ≤ n ∧ n ≤ 57) := by simpa [figN] using hd
      have hv : furtherN n = decide ((n : Int) = 95) := by
        unfold furtherN
        rw [hl, Bool.false_or, decide_eq_decide]
        omega
      have L := Lib.hid (fun W => lex_letter n false hl W)
      have G := Lib.hid (fun W => lex_digit n false hd W)
      by_cases h95 : n = 95
      · subst h95
        rw [hv]; clear hv hl hd hd'
        go_enter Tryz.func53, Tryz.ntmps53
        go_wp2_with (first | (go_at_call 57; refine (L.out _).mono ?_; rintro e w1 ⟨rfl, q1⟩) | (go_at_call 55; refine (G.out _).mono ?_; rintro e w2 ⟨rfl, q2⟩))
        go_ret
        exact ⟨rfl, q1.trans q2⟩
      · have hw : decide ((n : Int) = 95) = false := by simp; omega
        have e1 : ((n : Int) == 95) = false := by simp; omega
        rw [hv, hw]; clear hv hw hl hd hd'
        go_enter Tryz.func53, Tryz.ntmps53
        go_wp2_with (first | (go_at_call 57; refine (L.out _).mono ?_; rintro e w1 ⟨rfl, q1⟩) | (go_at_call 55; refine (G.out _).mono ?_; rintro e w2 ⟨rfl, q2⟩))
        go_ret
        exact ⟨rfl, q1.trans q2⟩
    · have hd' : 48 ≤ n ∧ n ≤ 57 := by simpa [figN] using hd
      have hv : furtherN n = true := by
        unfold furtherN
        rw [hl, Bool.false_or, decide_eq_true (Or.inl hd')]
      have L := Lib.hid (fun W => lex_letter n false hl W)
      have G := Lib.hid (fun W => lex_digit n true hd W)
      rw [hv]; clear hv hl hd hd'
      go_enter Tryz.func53, Tryz.ntmps53
      go_wp2_with (first | (go_at_call 57; refine (L.out _).mono ?_; rintro e w1 ⟨rfl, q1⟩) | (go_at_call 55; refine (G.out _).mono ?_; rintro e w2 ⟨rfl, q2⟩))
      go_ret
      exact ⟨rfl, q1.trans q2⟩
  · have hv : furtherN n = true := by unfold furtherN; rw [hl]; rfl
    have L := Lib.hid (fun W => lex_letter n true hl W)
    rw [hv]; clear hv hl
    go_enter Tryz.func53, Tryz.ntmps53
    go_wp2_with (go_at_call 57; refine (L.out _).mono ?_; rintro e w1 ⟨rfl, q1⟩)
    go_ret
    exact ⟨rfl, q1⟩
theorem lex_further (n : Nat) (b : Bool) (hb : furtherN n = b) (w : World) : Calls Tryz.prog 53 #[.int .u8 (n : Int)] w fun e w' => e = .returned (.bool b) ∧ Quiet w w' := hb ▸ lex_further_any n w
set_option maxHeartbeats 4000000 in
theorem lex_reserved_any (s : ByteArray) (w : World) : Calls Tryz.prog 58 #[.string s] w fun e w' => e = .returned (.bool (decide (bs s ∈ wordsL))) ∧ Quiet w w' := by
  by_cases hm : bs s ∈ wordsL
  · have hv : decide (bs s ∈ wordsL) = true := decide_eq_true hm
    rw [hv]
    clear hv
    simp only [wordsL, List.mem_cons, List.not_mem_nil, or_false] at hm
    rcases hm with hm | hm | hm | hm | hm | hm | hm | hm | hm | hm | hm | hm | hm | hm | hm | hm | hm | hm | hm | hm | hm | hm
    · have hs : s = ⟨#[97, 110, 100]⟩ := bs_inj (hm.trans rfl)
      subst hs
      clear hm
      go_enter Tryz.func58, Tryz.ntmps58
      go_wp2_with fail
      go_ret
      exact ⟨rfl, Quiet.refl _⟩
    · have hs : s = ⟨#[97, 110, 121]⟩ := bs_inj (hm.trans rfl)
      subst hs
      clear hm
      go_enter Tryz.func58, Tryz.ntmps58
      go_wp2_with fail
      go_ret
      exact ⟨rfl, Quiet.refl _⟩
    · have hs : s = ⟨#[99, 111, 110, 99, 101, 112, 116]⟩ := bs_inj (hm.trans rfl)
      subst hs
      clear hm
      go_enter Tryz.func58, Tryz.ntmps58
      go_wp2_with fail
      go_ret
      exact ⟨rfl, Quiet.refl _⟩
    · have hs : s = ⟨#[101, 108, 115, 101]⟩ := bs_inj (hm.trans rfl)
      subst hs
      clear hm
      go_enter Tryz.func58, Tryz.ntmps58
      go_wp2_with fail
      go_ret
      exact ⟨rfl, Quiet.refl _⟩
    · have hs : s = ⟨#[101, 110, 100]⟩ := bs_inj (hm.trans rfl)
      subst hs
      clear hm
      go_enter Tryz.func58, Tryz.ntmps58
      go_wp2_with fail
      go_ret
      exact ⟨rfl, Quiet.refl _⟩
    · have hs : s = ⟨#[101, 118, 101, 114, 121]⟩ := bs_inj (hm.trans rfl)
      subst hs
      clear hm
      go_enter Tryz.func58, Tryz.ntmps58
      go_wp2_with fail
      go_ret
      exact ⟨rfl, Quiet.refl _⟩
    · have hs : s = ⟨#[102, 97, 108, 115, 101]⟩ := bs_inj (hm.trans rfl)
      subst hs
      clear hm
      go_enter Tryz.func58, Tryz.ntmps58
      go_wp2_with fail
      go_ret
      exact ⟨rfl, Quiet.refl _⟩
    · have hs : s = ⟨#[102, 105, 114, 115, 116]⟩ := bs_inj (hm.trans rfl)
      subst hs
      clear hm
      go_enter Tryz.func58, Tryz.ntmps58
      go_wp2_with fail
      go_ret
      exact ⟨rfl, Quiet.refl _⟩
    · have hs : s = ⟨#[105, 100]⟩ := bs_inj (hm.trans rfl)
      subst hs
      clear hm
      go_enter Tryz.func58, Tryz.ntmps58
      go_wp2_with fail
      go_ret
      exact ⟨rfl, Quiet.refl _⟩
    · have hs : s = ⟨#[105, 102]⟩ := bs_inj (hm.trans rfl)
      subst hs
      clear hm
      go_enter Tryz.func58, Tryz.ntmps58
      go_wp2_with fail
      go_ret
      exact ⟨rfl, Quiet.refl _⟩
    · have hs : s = ⟨#[105, 110]⟩ := bs_inj (hm.trans rfl)
      subst hs
      clear hm
      go_enter Tryz.func58, Tryz.ntmps58
      go_wp2_with fail
      go_ret
      exact ⟨rfl, Quiet.refl _⟩
    · have hs : s = ⟨#[105, 110, 116]⟩ := bs_inj (hm.trans rfl)
      subst hs
      clear hm
      go_enter Tryz.func58, Tryz.ntmps58
      go_wp2_with fail
      go_ret
      exact ⟨rfl, Quiet.refl _⟩
    · have hs : s = ⟨#[110, 111, 110, 101]⟩ := bs_inj (hm.trans rfl)
      subst hs
      clear hm
      go_enter Tryz.func58, Tryz.ntmps58
      go_wp2_with fail
      go_ret
      exact ⟨rfl, Quiet.refl _⟩
    · have hs : s = ⟨#[110, 111, 116]⟩ := bs_inj (hm.trans rfl)
      subst hs
      clear hm
      go_enter Tryz.func58, Tryz.ntmps58
      go_wp2_with fail
      go_ret
      exact ⟨rfl, Quiet.refl _⟩
    · have hs : s = ⟨#[111, 110, 108, 121]⟩ := bs_inj (hm.trans rfl)
      subst hs
      clear hm
      go_enter Tryz.func58, Tryz.ntmps58
      go_wp2_with fail
      go_ret
      exact ⟨rfl, Quiet.refl _⟩
    · have hs : s = ⟨#[111, 114]⟩ := bs_inj (hm.trans rfl)
      subst hs
      clear hm
      go_enter Tryz.func58, Tryz.ntmps58
      go_wp2_with fail
      go_ret
      exact ⟨rfl, Quiet.refl _⟩
    · have hs : s = ⟨#[115, 101, 108, 102]⟩ := bs_inj (hm.trans rfl)
      subst hs
      clear hm
      go_enter Tryz.func58, Tryz.ntmps58
      go_wp2_with fail
      go_ret
      exact ⟨rfl, Quiet.refl _⟩
    · have hs : s = ⟨#[115, 105, 122, 101]⟩ := bs_inj (hm.trans rfl)
      subst hs
      clear hm
      go_enter Tryz.func58, Tryz.ntmps58
      go_wp2_with fail
      go_ret
      exact ⟨rfl, Quiet.refl _⟩
    · have hs : s = ⟨#[115, 117, 109]⟩ := bs_inj (hm.trans rfl)
      subst hs
      clear hm
      go_enter Tryz.func58, Tryz.ntmps58
      go_wp2_with fail
      go_ret
      exact ⟨rfl, Quiet.refl _⟩
    · have hs : s = ⟨#[116, 101, 120, 116]⟩ := bs_inj (hm.trans rfl)
      subst hs
      clear hm
      go_enter Tryz.func58, Tryz.ntmps58
      go_wp2_with fail
      go_ret
      exact ⟨rfl, Quiet.refl _⟩
    · have hs : s = ⟨#[116, 104, 101, 110]⟩ := bs_inj (hm.trans rfl)
      subst hs
      clear hm
      go_enter Tryz.func58, Tryz.ntmps58
      go_wp2_with fail
      go_ret
      exact ⟨rfl, Quiet.refl _⟩
    · have hs : s = ⟨#[116, 114, 117, 101]⟩ := bs_inj (hm.trans rfl)
      subst hs
      clear hm
      go_enter Tryz.func58, Tryz.ntmps58
      go_wp2_with fail
      go_ret
      exact ⟨rfl, Quiet.refl _⟩
  · have hv : decide (bs s ∈ wordsL) = false := decide_eq_false hm
    rw [hv]
    clear hv
    simp only [wordsL, List.mem_cons, List.not_mem_nil, or_false, not_or] at hm
    obtain ⟨h0, h1, h2, h3, h4, h5, h6, h7, h8, h9, h10, h11, h12, h13, h14, h15, h16, h17, h18, h19, h20, h21⟩ := hm
    have g0 : ¬ s.toList = [97, 110, 100] := fun e => h0 (by rw [(toList_inj s ⟨#[97, 110, 100]⟩).1 (e.trans (by rw [ByteArray.toList_eq]))]; rfl)
    have k0 : (s.toList == [97, 110, 100]) = false := by rw [beq_eq_false_iff_ne]; exact g0
    have g1 : ¬ s.toList = [97, 110, 121] := fun e => h1 (by rw [(toList_inj s ⟨#[97, 110, 121]⟩).1 (e.trans (by rw [ByteArray.toList_eq]))]; rfl)
    have k1 : (s.toList == [97, 110, 121]) = false := by rw [beq_eq_false_iff_ne]; exact g1
    have g2 : ¬ s.toList = [99, 111, 110, 99, 101, 112, 116] := fun e => h2 (by rw [(toList_inj s ⟨#[99, 111, 110, 99, 101, 112, 116]⟩).1 (e.trans (by rw [ByteArray.toList_eq]))]; rfl)
    have k2 : (s.toList == [99, 111, 110, 99, 101, 112, 116]) = false := by rw [beq_eq_false_iff_ne]; exact g2
    have g3 : ¬ s.toList = [101, 108, 115, 101] := fun e => h3 (by rw [(toList_inj s ⟨#[101, 108, 115, 101]⟩).1 (e.trans (by rw [ByteArray.toList_eq]))]; rfl)
    have k3 : (s.toList == [101, 108, 115, 101]) = false := by rw [beq_eq_false_iff_ne]; exact g3
    have g4 : ¬ s.toList = [101, 110, 100] := fun e => h4 (by rw [(toList_inj s ⟨#[101, 110, 100]⟩).1 (e.trans (by rw [ByteArray.toList_eq]))]; rfl)
    have k4 : (s.toList == [101, 110, 100]) = false := by rw [beq_eq_false_iff_ne]; exact g4
    have g5 : ¬ s.toList = [101, 118, 101, 114, 121] := fun e => h5 (by rw [(toList_inj s ⟨#[101, 118, 101, 114, 121]⟩).1 (e.trans (by rw [ByteArray.toList_eq]))]; rfl)
    have k5 : (s.toList == [101, 118, 101, 114, 121]) = false := by rw [beq_eq_false_iff_ne]; exact g5
    have g6 : ¬ s.toList = [102, 97, 108, 115, 101] := fun e => h6 (by rw [(toList_inj s ⟨#[102, 97, 108, 115, 101]⟩).1 (e.trans (by rw [ByteArray.toList_eq]))]; rfl)
    have k6 : (s.toList == [102, 97, 108, 115, 101]) = false := by rw [beq_eq_false_iff_ne]; exact g6
    have g7 : ¬ s.toList = [102, 105, 114, 115, 116] := fun e => h7 (by rw [(toList_inj s ⟨#[102, 105, 114, 115, 116]⟩).1 (e.trans (by rw [ByteArray.toList_eq]))]; rfl)
    have k7 : (s.toList == [102, 105, 114, 115, 116]) = false := by rw [beq_eq_false_iff_ne]; exact g7
    have g8 : ¬ s.toList = [105, 100] := fun e => h8 (by rw [(toList_inj s ⟨#[105, 100]⟩).1 (e.trans (by rw [ByteArray.toList_eq]))]; rfl)
    have k8 : (s.toList == [105, 100]) = false := by rw [beq_eq_false_iff_ne]; exact g8
    have g9 : ¬ s.toList = [105, 102] := fun e => h9 (by rw [(toList_inj s ⟨#[105, 102]⟩).1 (e.trans (by rw [ByteArray.toList_eq]))]; rfl)
    have k9 : (s.toList == [105, 102]) = false := by rw [beq_eq_false_iff_ne]; exact g9
    have g10 : ¬ s.toList = [105, 110] := fun e => h10 (by rw [(toList_inj s ⟨#[105, 110]⟩).1 (e.trans (by rw [ByteArray.toList_eq]))]; rfl)
    have k10 : (s.toList == [105, 110]) = false := by rw [beq_eq_false_iff_ne]; exact g10
    have g11 : ¬ s.toList = [105, 110, 116] := fun e => h11 (by rw [(toList_inj s ⟨#[105, 110, 116]⟩).1 (e.trans (by rw [ByteArray.toList_eq]))]; rfl)
    have k11 : (s.toList == [105, 110, 116]) = false := by rw [beq_eq_false_iff_ne]; exact g11
    have g12 : ¬ s.toList = [110, 111, 110, 101] := fun e => h12 (by rw [(toList_inj s ⟨#[110, 111, 110, 101]⟩).1 (e.trans (by rw [ByteArray.toList_eq]))]; rfl)
    have k12 : (s.toList == [110, 111, 110, 101]) = false := by rw [beq_eq_false_iff_ne]; exact g12
    have g13 : ¬ s.toList = [110, 111, 116] := fun e => h13 (by rw [(toList_inj s ⟨#[110, 111, 116]⟩).1 (e.trans (by rw [ByteArray.toList_eq]))]; rfl)
    have k13 : (s.toList == [110, 111, 116]) = false := by rw [beq_eq_false_iff_ne]; exact g13
    have g14 : ¬ s.toList = [111, 110, 108, 121] := fun e => h14 (by rw [(toList_inj s ⟨#[111, 110, 108, 121]⟩).1 (e.trans (by rw [ByteArray.toList_eq]))]; rfl)
    have k14 : (s.toList == [111, 110, 108, 121]) = false := by rw [beq_eq_false_iff_ne]; exact g14
    have g15 : ¬ s.toList = [111, 114] := fun e => h15 (by rw [(toList_inj s ⟨#[111, 114]⟩).1 (e.trans (by rw [ByteArray.toList_eq]))]; rfl)
    have k15 : (s.toList == [111, 114]) = false := by rw [beq_eq_false_iff_ne]; exact g15
    have g16 : ¬ s.toList = [115, 101, 108, 102] := fun e => h16 (by rw [(toList_inj s ⟨#[115, 101, 108, 102]⟩).1 (e.trans (by rw [ByteArray.toList_eq]))]; rfl)
    have k16 : (s.toList == [115, 101, 108, 102]) = false := by rw [beq_eq_false_iff_ne]; exact g16
    have g17 : ¬ s.toList = [115, 105, 122, 101] := fun e => h17 (by rw [(toList_inj s ⟨#[115, 105, 122, 101]⟩).1 (e.trans (by rw [ByteArray.toList_eq]))]; rfl)
    have k17 : (s.toList == [115, 105, 122, 101]) = false := by rw [beq_eq_false_iff_ne]; exact g17
    have g18 : ¬ s.toList = [115, 117, 109] := fun e => h18 (by rw [(toList_inj s ⟨#[115, 117, 109]⟩).1 (e.trans (by rw [ByteArray.toList_eq]))]; rfl)
    have k18 : (s.toList == [115, 117, 109]) = false := by rw [beq_eq_false_iff_ne]; exact g18
    have g19 : ¬ s.toList = [116, 101, 120, 116] := fun e => h19 (by rw [(toList_inj s ⟨#[116, 101, 120, 116]⟩).1 (e.trans (by rw [ByteArray.toList_eq]))]; rfl)
    have k19 : (s.toList == [116, 101, 120, 116]) = false := by rw [beq_eq_false_iff_ne]; exact g19
    have g20 : ¬ s.toList = [116, 104, 101, 110] := fun e => h20 (by rw [(toList_inj s ⟨#[116, 104, 101, 110]⟩).1 (e.trans (by rw [ByteArray.toList_eq]))]; rfl)
    have k20 : (s.toList == [116, 104, 101, 110]) = false := by rw [beq_eq_false_iff_ne]; exact g20
    have g21 : ¬ s.toList = [116, 114, 117, 101] := fun e => h21 (by rw [(toList_inj s ⟨#[116, 114, 117, 101]⟩).1 (e.trans (by rw [ByteArray.toList_eq]))]; rfl)
    have k21 : (s.toList == [116, 114, 117, 101]) = false := by rw [beq_eq_false_iff_ne]; exact g21
    clear h0 h1 h2 h3 h4 h5 h6 h7 h8 h9 h10 h11 h12 h13 h14 h15 h16 h17 h18 h19 h20 h21
    go_enter Tryz.func58, Tryz.ntmps58
    go_wp2_with fail
    go_ret
    exact ⟨rfl, Quiet.refl _⟩
end Go.Proofs.YtidkbodmiegbkaaGreatDoor
