/- What the longer lists of variables give. -/
import Derived.Test.YtjjppnfdnjdhlaaDoorDoor
import Derived.Test.YtjjppnfdnjdhlaaDoorShow
import Derived.Stop.LaidErr
namespace Go.Proofs.YtjjppnfdnjdhlaaDoor
open Go.RowKit Go.ChangeShapes Go.WideShapes Go.ChangeAt

theorem gP : Tryd.prog.globalNamed "internal/strconv.uint64pow10" = some 1 := by kernel_rfl
theorem gPT : (Tryd.prog.globals[1]?).map (·.type) = some 99 := by kernel_rfl
theorem cellsP : Tryd.prog.cellsOf 99 = 20 := by kernel_rfl
theorem cellsU : Tryd.prog.cellsOf 90 = 1 := by kernel_rfl
theorem vars_of {W : World} (h : laidMetH Tryd.prog Rows.lexJoinsRow.laid W) : Marks W ∧ Pow W := by
  have h1 : laidMet Tryd.prog Rows.lexJoinsRow.laid W := h
  have h2 := h1.tail.tail
  exact ⟨marks_head h2.tail, Lib.tabIs_of_head gP gPT Tryd.underlying99 Tryd.underlying90 cellsU cellsP h2⟩
end Go.Proofs.YtjjppnfdnjdhlaaDoor
