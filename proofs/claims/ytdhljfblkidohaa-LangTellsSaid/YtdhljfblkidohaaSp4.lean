/- Rows of the call's own that are spoilt: their texts are written over. -/
import Derived.Test.YtdhljfblkidohaaTwC
namespace Go.Proofs.Ytdhljfblkidohaa
set_option linter.unusedSimpArgs false
set_option linter.unusedVariables false
open Go.RowKit

/-- a block of at least so many cells -/
def Room (W : World) (b : Nat) (t : TypeId) (n : Nat) : Prop := ∃ cs : Array Value, Blk W b t cs ∧ n ≤ cs.size
section
variable {W : World} {b n : Nat} {t : TypeId}
theorem Room.get (h : Room W b t n) {i : Nat} (hi : i < n) : ∃ u, W.cell? ⟨b, i, none⟩ = some u := by
  obtain ⟨cs, h1, h2⟩ := h
  exact ⟨cs[i], h1.cell (Array.getElem?_eq_getElem (by omega))⟩
theorem Room.froz (h : Room W b t n) (i : Nat) : W.frozen? ⟨b, i, none⟩ = false := by
  obtain ⟨cs, h1, _⟩ := h
  exact h1.frozen i
theorem Room.lt (h : Room W b t n) : b < W.heap.size := by
  obtain ⟨cs, h1, _⟩ := h
  exact h1.lt
theorem Room.set (h : Room W b t n) (b' i : Nat) (u : Value) : Room (W.setCell ⟨b', i, none⟩ u) b t n := by
  obtain ⟨cs, h1, h2⟩ := h
  by_cases e : b = b'
  · subst e
    exact ⟨_, h1.set_ i u, by simpa using h2⟩
  · exact ⟨cs, h1.far (p := ⟨b', i, none⟩) e u, h2⟩
theorem Room.below {W' : World} (h : Room W b t n) (hb : Below W.heap.size W W') : Room W' b t n := by
  obtain ⟨cs, h1, h2⟩ := h
  exact ⟨cs, h1.below hb h1.lt, h2⟩
end
theorem Own1.room {α : Type} {w : World} {base size n c : Nat} {e : TypeId} {R : List Value → α → Prop} {a : Option Addr} {l : List α} (h : Own1 w base e size R (.slice a n c) l) : 0 < n → ∃ b, a = some ⟨b, 0, none⟩ ∧ base ≤ b ∧ Room w b e (n * size) := by
  intro hn
  obtain ⟨xs, ⟨_, h2⟩, _⟩ := h
  rcases h2 with ⟨h2, _⟩ | ⟨b, cap, cur, r1, r2, r3, r4, r5, r6, _⟩
  · injection h2 with _ e2 _
    omega
  · injection r1 with e1 e2 e3
    subst e1 e2 e3
    exact ⟨b, rfl, r2, cur, r3, by rw [r6]; exact Nat.mul_le_mul_right _ r4⟩
theorem blk_apart {w : World} {g g' : Nat} {e e' : TypeId} {cs cs' : Array Value} (h : Blk w g e cs) (h' : Blk w g' e' cs') (hne : e ≠ e') : g ≠ g' := by
  intro he
  subst he
  unfold Blk at h h'
  rw [h] at h'
  injection h' with h'
  injection h' with _ e2 _
  exact hne e2
/-- what the loops that spoil know: the concept's box, and the four rows -/
structure SpS (W0 W : World) (g : Nat) (cells : Array Value) (p1 : Option Addr) (n1 : Nat) (p2 : Option Addr) (n2 : Nat) (p3 : Option Addr) (n3 : Nat) (p4 : Option Addr) (n4 : Nat) : Prop where
  low : Below W0.heap.size W0 W
  box : Blk W g 38 cells
  r1 : 0 < n1 → ∃ b, p1 = some ⟨b, 0, none⟩ ∧ W0.heap.size ≤ b ∧ Room W b 45 (n1 * 2)
  r2 : 0 < n2 → ∃ b, p2 = some ⟨b, 0, none⟩ ∧ W0.heap.size ≤ b ∧ Room W b 47 (n2 * 4)
  r3 : 0 < n3 → ∃ b, p3 = some ⟨b, 0, none⟩ ∧ W0.heap.size ≤ b ∧ Room W b 49 (n3 * 3)
  r4 : 0 < n4 → ∃ b, p4 = some ⟨b, 0, none⟩ ∧ W0.heap.size ≤ b ∧ Room W b 9 (n4 * 1)
section
variable {W0 W : World} {g : Nat} {cells : Array Value} {p1 : Option Addr} {n1 : Nat} {p2 : Option Addr} {n2 : Nat} {p3 : Option Addr} {n3 : Nat} {p4 : Option Addr} {n4 : Nat}
theorem SpS.set (h : SpS W0 W g cells p1 n1 p2 n2 p3 n3 p4 n4) {b i m : Nat} {t : TypeId} (hr : Room W b t m) (ht : t ≠ 38) (hb : W0.heap.size ≤ b) (u : Value) : SpS W0 (W.setCell ⟨b, i, none⟩ u) g cells p1 n1 p2 n2 p3 n3 p4 n4 := by
  obtain ⟨cs, hc, _⟩ := hr
  refine ⟨h.low.setCell (p := ⟨b, i, none⟩) hb u, h.box.far (p := ⟨b, i, none⟩) (blk_apart hc h.box ht).symm u, fun hn => ?_, fun hn => ?_, fun hn => ?_, fun hn => ?_⟩
  · obtain ⟨q, h1, h2, h3⟩ := h.r1 hn
    exact ⟨q, h1, h2, h3.set b _ u⟩
  · obtain ⟨q, h1, h2, h3⟩ := h.r2 hn
    exact ⟨q, h1, h2, h3.set b _ u⟩
  · obtain ⟨q, h1, h2, h3⟩ := h.r3 hn
    exact ⟨q, h1, h2, h3.set b _ u⟩
  · obtain ⟨q, h1, h2, h3⟩ := h.r4 hn
    exact ⟨q, h1, h2, h3.set b _ u⟩
theorem SpS.at1 (h : SpS W0 W g cells p1 n1 p2 n2 p3 n3 p4 n4) {k : Nat} (hk : k < n1) : ∃ b, p1 = some ⟨b, 0, none⟩ ∧ (∃ u, W.cell? ⟨b, k * 2, none⟩ = some u) ∧ W.frozen? ⟨b, k * 2, none⟩ = false ∧ b < W.heap.size ∧ ∀ u, SpS W0 (W.setCell ⟨b, k * 2, none⟩ u) g cells p1 n1 p2 n2 p3 n3 p4 n4 := by
  obtain ⟨b, h1, h2, h3⟩ := h.r1 (by omega)
  exact ⟨b, h1, h3.get (by omega), h3.froz _, h3.lt, fun u => h.set h3 (by decide) h2 u⟩
theorem SpS.at2 (h : SpS W0 W g cells p1 n1 p2 n2 p3 n3 p4 n4) {k : Nat} (hk : k < n2) : ∃ b, p2 = some ⟨b, 0, none⟩ ∧ (∃ u, W.cell? ⟨b, k * 4, none⟩ = some u) ∧ W.frozen? ⟨b, k * 4, none⟩ = false ∧ b < W.heap.size ∧ ∀ u, SpS W0 (W.setCell ⟨b, k * 4, none⟩ u) g cells p1 n1 p2 n2 p3 n3 p4 n4 := by
  obtain ⟨b, h1, h2, h3⟩ := h.r2 (by omega)
  exact ⟨b, h1, h3.get (by omega), h3.froz _, h3.lt, fun u => h.set h3 (by decide) h2 u⟩
theorem SpS.at3 (h : SpS W0 W g cells p1 n1 p2 n2 p3 n3 p4 n4) {k : Nat} (hk : k < n3) : ∃ b, p3 = some ⟨b, 0, none⟩ ∧ (∃ u, W.cell? ⟨b, k * 3, none⟩ = some u) ∧ W.frozen? ⟨b, k * 3, none⟩ = false ∧ b < W.heap.size ∧ ∀ u, SpS W0 (W.setCell ⟨b, k * 3, none⟩ u) g cells p1 n1 p2 n2 p3 n3 p4 n4 := by
  obtain ⟨b, h1, h2, h3⟩ := h.r3 (by omega)
  exact ⟨b, h1, h3.get (by omega), h3.froz _, h3.lt, fun u => h.set h3 (by decide) h2 u⟩
theorem SpS.at4 (h : SpS W0 W g cells p1 n1 p2 n2 p3 n3 p4 n4) {k : Nat} (hk : k < n4) : ∃ b, p4 = some ⟨b, 0, none⟩ ∧ (∃ u, W.cell? ⟨b, k * 1, none⟩ = some u) ∧ W.frozen? ⟨b, k * 1, none⟩ = false ∧ b < W.heap.size ∧ ∀ u, SpS W0 (W.setCell ⟨b, k * 1, none⟩ u) g cells p1 n1 p2 n2 p3 n3 p4 n4 := by
  obtain ⟨b, h1, h2, h3⟩ := h.r4 (by omega)
  exact ⟨b, h1, h3.get (by omega), h3.froz _, h3.lt, fun u => h.set h3 (by decide) h2 u⟩
end
end Go.Proofs.Ytdhljfblkidohaa
