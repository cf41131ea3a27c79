/- Plain words for slices of structs that are read, over whatever program: what a slice value holds as a list, how it is kept, how it is opened from an argument's reading. -/
import Derived.WalkKit
import Derived.Below
import Derived.Lib.Hide
import Derived.Deep.Slices
import Derived.Deep.Fields
import Derived.Deep.Draws
import Derived.ProofKit
namespace Go.Proofs.Ytjndcmkjbjgnmaa
open Go.RowKit Go.ChangeShapes Go.WideShapes Go.Deep

/-- A slice value that reads as a list: the element number i lies in 'size' cells that are as 'R' says of it. -/
def SlR {α : Type} (w : World) (B size : Nat) (R : List Value → α → Prop) (v : Value) (l : List α) : Prop :=
  ∃ (a : Option Addr) (c : Nat), v = .slice a l.length c ∧ l.length ≤ c ∧ c ≤ maxLen ∧
    (0 < l.length → ∃ b off, a = some ⟨b, off, none⟩ ∧ b < B ∧ ∀ (i : Nat) (y : α), l[i]? = some y → ∃ x : List Value, x.length = size ∧ R x y ∧ ∀ (j : Nat) (u : Value), x[j]? = some u → w.cell? ⟨b, off + i * size + j, none⟩ = some u)

section
variable {α : Type} {w w' : World} {B B' size : Nat} {R R' : List Value → α → Prop} {v : Value} {l : List α}

theorem SlR.nil_ (c : Nat) (hc : c ≤ maxLen) (a : Option Addr) : SlR w B size R (.slice a 0 c) ([] : List α) := ⟨a, c, rfl, Nat.zero_le _, hc, fun h => absurd h (by simp)⟩
theorem SlR.keep (h : SlR w B size R v l) (hk : ∀ p : Addr, p.block < B → w'.cell? p = w.cell? p) (hR : ∀ x y, R x y → R' x y) (hB : B ≤ B') : SlR w' B' size R' v l := by
  obtain ⟨a, c, rfl, h1, h2, h3⟩ := h
  refine ⟨a, c, rfl, h1, h2, fun hl => ?_⟩
  obtain ⟨b, off, ha, hb, hc⟩ := h3 hl
  refine ⟨b, off, ha, by omega, fun i y hy => ?_⟩
  obtain ⟨x, hx1, hx2, hx3⟩ := hc i y hy
  exact ⟨x, hx1, hR _ _ hx2, fun j u hu => (hk ⟨b, _, none⟩ hb).trans (hx3 j u hu)⟩
theorem SlR.below (h : SlR w B size R v l) (hb : Below B w w') : SlR w' B size R v l := h.keep (fun _ hp => hb.cell hp) (fun _ _ r => r) (Nat.le_refl _)
theorem SlR.more (h : SlR w B size R v l) (hB : B ≤ B') : SlR w B' size R v l := h.keep (fun _ _ => rfl) (fun _ _ r => r) hB
theorem SlR.imp (h : SlR w B size R v l) (hR : ∀ x y, R x y → R' x y) : SlR w B size R' v l := h.keep (fun _ _ => rfl) hR (Nat.le_refl _)
theorem SlR.form (h : SlR w B size R v l) : ∃ (a : Option Addr) (c : Nat), v = .slice a l.length c ∧ l.length ≤ c ∧ c ≤ maxLen := by
  obtain ⟨a, c, h0, h1, h2, _⟩ := h
  exact ⟨a, c, h0, h1, h2⟩
/-- the element k -/
theorem SlR.at_ {k : Nat} {y : α} {a : Option Addr} {n c : Nat} (h : SlR w B size R (.slice a n c) l) (hy : l[k]? = some y) :
    ∃ b off x, a = some ⟨b, off, none⟩ ∧ b < B ∧ x.length = size ∧ R x y ∧ ∀ (j : Nat) (u : Value), x[j]? = some u → w.cell? ⟨b, off + k * size + j, none⟩ = some u := by
  obtain ⟨a', c', hv, h1, h2, h3⟩ := h
  have hl : k < l.length := (List.getElem?_eq_some_iff.1 hy).1
  obtain ⟨b, off, ha, hb, hc⟩ := h3 (by omega)
  obtain ⟨x, hx⟩ := hc k y hy
  injection hv with e1 e2 e3
  exact ⟨b, off, x, e1.trans ha, hb, hx.1, hx.2.1, hx.2.2⟩
theorem SlR.len {a : Option Addr} {n c : Nat} (h : SlR w B size R (.slice a n c) l) : n = l.length := by
  obtain ⟨_, _, hv, _⟩ := h
  injection hv
theorem SlR.caps {a : Option Addr} {n c : Nat} (h : SlR w B size R (.slice a n c) l) : n ≤ c ∧ c ≤ maxLen := by
  obtain ⟨_, _, hv, h1, h2, _⟩ := h
  injection hv with _ e2 e3
  subst e2 e3
  exact ⟨h1, h2⟩
end

theorem list_of_forall {α : Type} {P : Nat → α → Prop} : ∀ n : Nat, (∀ i, i < n → ∃ d, P i d) → ∃ l : List α, l.length = n ∧ ∀ i d, l[i]? = some d → P i d
  | 0, _ => ⟨[], rfl, fun i d h => by simp at h⟩
  | n + 1, h => by
    obtain ⟨l, hl, hp⟩ := list_of_forall n (fun i hi => h i (by omega))
    obtain ⟨d, hd⟩ := h n (by omega)
    refine ⟨l ++ [d], by simp [hl], fun i e he => ?_⟩
    rcases Nat.lt_trichotomy i n with hi | hi | hi
    · rw [List.getElem?_append_left (by omega)] at he
      exact hp i e he
    · subst hi
      rw [List.getElem?_append_right (by omega), hl] at he
      simp at he
      subst he
      exact hd
    · rw [List.getElem?_eq_none (by simp; omega)] at he
      cases he

section
variable {H : Type} {enc : TypeId × Value → H} {P : Program} {w : World} {base : Nat} {spare : Nat → Bool} {held : Bool}

theorem cell_lt {w : World} {p : Addr} {u : Value} (h : w.cell? p = some u) : p.block < w.heap.size := by
  rcases Nat.lt_or_ge p.block w.heap.size with hlt | hge
  · exact hlt
  · rw [World.cell?, Array.getElem?_eq_none hge] at h
    cases h

/-- AN ARGUMENT'S SLICE, opened: whatever each element's cells read as. -/
theorem open_SlR {α : Type} {t e : TypeId} {fuel size : Nat} {v : Value} {d : DataW H × List MemPlace} (R : List Value → α → Prop) (ht : P.underlying t = some (.slice e)) (hC : P.cellsOf e = size) (hs : 0 < size)
    (h : DataW.trod enc P w base spare held fuel t [v] = some d)
    (hR : ∀ (n : Nat) (x : List Value) (y : DataW H × List MemPlace), x.length = size → DataW.trod enc P w base spare held n e x = some y → ∃ z : α, R x z) :
    ∃ l : List α, SlR w w.heap.size size R v l := by
  rcases open_slice ht h with ⟨h0, _⟩ | ⟨a, len, cap, m, n, D, Pl, hcs, hb, hl, hm, hmm, hx, hi⟩
  · simp at h0
    subst h0
    exact ⟨[], SlR.nil_ _ (by unfold maxLen; omega) _⟩
  · simp at hcs
    subst hcs
    rw [hC] at hi
    have hlm : len ≤ m := by rw [hmm]; split <;> omega
    have key : ∀ i, i < len → ∃ z : α, ∃ x : List Value, x.length = size ∧ R x z ∧ ∀ (j : Nat) (u : Value), x[j]? = some u → w.cell? (a.add (i * size + j)) = some u := by
      intro i hil
      obtain ⟨cs', h1, h2⟩ := hi i (by omega)
      obtain ⟨_, hlen, hat⟩ := World.cells?_some h1
      obtain ⟨z, hz⟩ := hR n cs' _ hlen h2
      refine ⟨z, cs', hlen, hz, fun j u hu => ?_⟩
      have hj : j < size := by rw [← hlen]; exact (List.getElem?_eq_some_iff.1 hu).1
      have := hat j hj
      rw [hu] at this
      rw [← Go.Deep.add_add]
      exact this
    obtain ⟨l, hlen, hp⟩ := list_of_forall len key
    refine ⟨l, some a, cap, by rw [hlen], by omega, hm, fun hl0 => ?_⟩
    obtain ⟨b, off, spot⟩ := a
    obtain ⟨x, hx1, _, hx3⟩ := hp 0 l[0] (List.getElem?_eq_getElem hl0)
    have hc0 := hx3 0 x[0] (List.getElem?_eq_getElem (by omega))
    have hspot : spot = none := by simpa [Addr.add] using World.cell?_spot hc0
    subst hspot
    refine ⟨b, off, rfl, by simpa [Addr.add] using cell_lt hc0, fun i y hy => ?_⟩
    obtain ⟨x, hx1, hx2, hx3⟩ := hp i y hy
    refine ⟨x, hx1, hx2, fun j u hu => ?_⟩
    have := hx3 j u hu
    have e : (Addr.add ⟨b, off, none⟩ (i * size + j)) = ⟨b, off + i * size + j, none⟩ := by
      unfold Addr.add
      split
      · rename_i h0
        rw [Nat.add_assoc, h0, Nat.add_zero]
      · rw [Nat.add_assoc]
    rwa [e] at this

/-- A STRUCT'S CELLS, opened: each field's reading (fields of one cell each). -/
theorem open_fields {e : TypeId} {fs : Array Field} {fuel : Nat} {x : List Value} {d : DataW H × List MemPlace} (he : P.underlying e = some (.struct fs)) (hone : oneCellFields P fs = true) (hC : P.cellsOf e = fs.size)
    (h : DataW.trod enc P w base spare held fuel e x = some d) :
    x.length = fs.size ∧ ∃ n, ∀ (j : Nat) (f : Field), fs[j]? = some f → ∃ (u : Value) (y : DataW H × List MemPlace), x[j]? = some u ∧ DataW.trod enc P w base spare held n f.type [u] = some y := by
  obtain ⟨ys, n, hn, hy, hlen, hyl, hf⟩ := DataW.trod_struct he h
  rw [hC] at hlen
  refine ⟨hlen, n, fun j f hj => ?_⟩
  obtain ⟨ho, hk⟩ := hone_of hone j f hj
  have hjl : j < fs.size := (Array.getElem?_eq_some_iff.1 hj).1
  have h1 := hf j f hj
  rw [ho, hk] at h1
  have hone' : (x.drop j).take 1 = [x[j]'(by omega)] := by
    rw [List.drop_eq_getElem_cons (by omega)]
    rfl
  rw [hone', List.getElem?_eq_getElem (show j < ys.length by omega)] at h1
  exact ⟨_, _, List.getElem?_eq_getElem (by omega), h1⟩
end

/-- the number of the first that is, or -1 -/
def firstAt {α : Type} (p : α → Bool) (l : List α) : Int := match l.findIdx? p with | some i => (i : Int) | none => -1
theorem firstAt_here {α : Type} {p : α → Bool} {l : List α} {k : Nat} {d : α} (hd : l[k]? = some d) (hp : p d = true) (hf : ∀ i d, i < k → l[i]? = some d → p d = false) : firstAt p l = k := by
  have hk : k < l.length := (List.getElem?_eq_some_iff.1 hd).1
  have : l.findIdx? p = some k := by
    rw [List.findIdx?_eq_some_iff_getElem]
    refine ⟨hk, ?_, fun j hj => ?_⟩
    · have := (List.getElem?_eq_some_iff.1 hd).2; rw [this]; exact hp
    · simp [hf j _ hj (List.getElem?_eq_getElem (by omega))]
  simp [firstAt, this]
theorem firstAt_none {α : Type} {p : α → Bool} {l : List α} (hf : ∀ i d, i < l.length → l[i]? = some d → p d = false) : firstAt p l = -1 := by
  have : l.findIdx? p = none := by
    rw [List.findIdx?_eq_none_iff]
    intro x hx
    obtain ⟨i, hi⟩ := List.mem_iff_getElem?.1 hx
    exact hf i x (List.getElem?_eq_some_iff.1 hi).1 hi
  simp [firstAt, this]
theorem firstAt_any {α : Type} (p : α → Bool) (l : List α) : decide (0 ≤ firstAt p l) = l.any p := by
  unfold firstAt
  cases h : l.findIdx? p with
  | none =>
    rw [List.findIdx?_eq_none_iff] at h
    simp
    intro x hx
    exact h x hx
  | some i =>
    obtain ⟨hi, hp, _⟩ := List.findIdx?_eq_some_iff_getElem.1 h
    simp
    exact ⟨_, List.getElem_mem hi, hp⟩
end Go.Proofs.Ytjndcmkjbjgnmaa
