/- Chapter 09, plain words, outright: the list of one node above an expression; is a list of a tree too great? -/
import Derived.Test.YtidkbodmiegbkaaGreatDoorKzA
namespace Go.Proofs.YtidkbodmiegbkaaGreatDoor
set_option linter.unusedSimpArgs false
set_option linter.unusedVariables false
open Go.RowKit

/-- a node whose parts stand so much farther on -/
def forthD (a : Int) (d : ND) : ND := ⟨d.kind, d.text, d.num, d.kids.map (· + a)⟩
mutual
theorem flat_forth : ∀ (t : Tr) (p a : Nat), ((t.flat p).map EN.nd).map (forthD (a : Int)) = (t.flat (p + a)).map EN.nd
  | .node k s n ks, p, a => by
    simp only [Tr.flat, List.map_cons]
    rw [flatL_forth ks (p + 1) a, show p + 1 + a = p + a + 1 by omega]
    congr 1
    have h := placesL_forth ks (p + 1) a
    rw [show p + 1 + a = p + a + 1 by omega] at h
    unfold forthD EN.nd
    simp only
    rw [h]
theorem flatL_forth : ∀ (ts : List Tr) (p a : Nat), ((flatL ts p).map EN.nd).map (forthD (a : Int)) = (flatL ts (p + a)).map EN.nd
  | [], p, a => by simp [flatL]
  | t :: ts, p, a => by
    simp only [flatL, List.map_append]
    rw [flat_forth t p a, flatL_forth ts (p + t.size) a, show p + t.size + a = p + a + t.size by omega]
theorem placesL_forth : ∀ (ts : List Tr) (p a : Nat), ((placesL ts p).map fun n : Nat => (n : Int)).map (· + (a : Int)) = (placesL ts (p + a)).map fun n : Nat => (n : Int)
  | [], p, a => by simp [placesL]
  | t :: ts, p, a => by
    simp only [placesL, List.map_cons]
    rw [placesL_forth ts (p + t.size) a, show p + t.size + a = p + a + t.size by omega]
    congr 1
end
theorem nds_forth (t : Tr) (p a : Nat) : (ndsT t p).map (forthD (a : Int)) = ndsT t (p + a) := flat_forth t p a
theorem nds_above (a : Nat) (t : Tr) : ndsT (aboveT a t) 0 = ⟨(a : Int), [], 0, [1]⟩ :: (ndsT t 0).map (forthD 1) := by
  rw [show ((1 : Int)) = ((1 : Nat) : Int) from rfl, nds_forth]
  simp [ndsT, aboveT, Tr.flat, flatL, placesL, EN.nd]
/-- what P8.2 says of a tree's list -/
theorem right_tr {t : Tr} (hg : t.Good) : rightE (ndsT t 0) = if 256 < t.size ∨ 32 < t.deep then 4 else 0 := by
  have hst : Stands (ndsT t 0) t 0 := by
    unfold Stands
    rw [List.drop_zero, List.take_of_length_le (by rw [nds_len]; exact Nat.le_refl _)]
  obtain ⟨h1, h2⟩ := met_of (l := ndsT t 0) t (ndsT t 0).length 0 (by rw [nds_len]; exact Nat.le_refl _) hg hst
  unfold rightE
  rw [h1, nds_len]
  by_cases hs : 256 < t.size
  · rw [if_pos hs, if_pos (.inl hs)]
  · rw [if_neg hs]
    simp only
    rw [if_neg (by omega)]
    by_cases hd : 32 < t.deep
    · rw [if_pos hd, if_pos (.inr hd)]
    · rw [if_neg hd, if_neg (by omega)]
theorem above_shape {a : Nat} (t : Tr) (ha : a = 16 ∨ a = 19 ∨ a = 29 ∨ a = 17 ∨ a = 14) : Shape a [] 0 [t] := by
  rcases ha with rfl | rfl | rfl | rfl | rfl
  · exact Shape.one (y := ([116, 101, 120, 116], 16, 1)) (by decide) rfl
  · exact Shape.one (y := ([105, 110, 116], 19, 1)) (by decide) rfl
  · exact Shape.not_
  · exact Shape.one (y := ([99, 111, 110, 99, 101, 112, 116], 17, 1)) (by decide) rfl
  · exact Shape.one (y := ([115, 105, 122, 101], 14, 1)) (by decide) rfl
end Go.Proofs.YtidkbodmiegbkaaGreatDoor
