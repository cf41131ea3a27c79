/- What the longer lists of variables give. -/
import Derived.Test.YtlenenfgedgmhaaDoorDoor
import Derived.Test.YtlenenfgedgmhaaDoorShow
import Derived.Stop.LaidErr
namespace Go.Proofs.YtlenenfgedgmhaaDoor
set_option linter.unusedSimpArgs false
set_option linter.unusedVariables false
open Go.RowKit Go.ChangeShapes Go.WideShapes Go.ChangeAt

theorem gP : Tryd.prog.globalNamed "internal/strconv.uint64pow10" = some 2 := by kernel_rfl
theorem gPT : (Tryd.prog.globals[2]?).map (·.type) = some 147 := by kernel_rfl
theorem cellsP : Tryd.prog.cellsOf 147 = 20 := by kernel_rfl
theorem cellsU : Tryd.prog.cellsOf 49 = 1 := by kernel_rfl
theorem vars5_of {W : World} (h : laidMetH Tryd.prog Rows.exprTellsRow.laid W) : Marks W ∧ Pow W ∧ Signs W := by
  have h1 : laidMet Tryd.prog Rows.exprTellsRow.laid W := h
  have h2 := h1.tail.tail
  exact ⟨marks_head h2.tail, Lib.tabIs_of_head gP gPT Tryd.underlying147 Tryd.underlying49 cellsU cellsP h2, signs_head (rest := []) h2.tail.tail⟩
end Go.Proofs.YtlenenfgedgmhaaDoor

