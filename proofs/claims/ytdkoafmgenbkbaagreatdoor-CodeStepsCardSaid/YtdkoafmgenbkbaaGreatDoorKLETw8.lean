/- - -/
import Derived.Test.YtdkoafmgenbkbaaGreatDoorKLCpR
set_option maxRecDepth 100000
set_option maxHeartbeats 32000000
set_option linter.unusedSimpArgs false
set_option linter.unusedVariables false
namespace Go.Proofs.YtdkoafmgenbkbaaGreatDoor
open Go.RowKit
theorem IsI.one : ∀ x y, IsI x y → ∀ u ∈ x, u.oneCell' = true := by
  intro x y h u hu
  unfold IsI at h
  subst h
  simp at hu
  subst hu
  rfl
end Go.Proofs.YtdkoafmgenbkbaaGreatDoor
