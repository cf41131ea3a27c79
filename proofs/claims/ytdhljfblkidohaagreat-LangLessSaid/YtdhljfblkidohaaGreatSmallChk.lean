/- What is thrown, and small answers of lang and its reference. -/
import Derived.Test.YtdhljfblkidohaaGreatProg
import Derived.Test.YtdhljfblkidohaaGreatChecked
import Derived.WalkKit
import Derived.Below
import Derived.Lib.Hide
import Derived.ProofKit
import Derived.WalkSmall
namespace Go.Proofs.YtdhljfblkidohaaGreat
set_option linter.unusedSimpArgs false
set_option linter.unusedVariables false
open Go.RowKit
/-- a fault's four numbers -/
abbrev fltV (a b c d : Int) : Value := .agg #[.int .i64 a, .int .i64 b, .int .i64 c, .int .i64 d]
/-- what is thrown with it -/
def thrown (f : Value) : List PanicEntry := [{ v := .iface 67 f, recovered := false }]
theorem must_yes (a b c d : Int) (w : World) : Calls Tryz.prog 17 #[.bool true, fltV a b c d] w fun e w' => e = .returned (.tuple #[]) ∧ Below w.heap.size w w' := by
  simp only [fltV]
  go_enter Tryz.func17, Tryz.ntmps17
  go_wp2_with fail
  go_end0
  exact ⟨rfl, (Below.refl _ _).alloc (Nat.le_refl _) _⟩
theorem must_no (a b c d : Int) (w : World) : Calls Tryz.prog 17 #[.bool false, fltV a b c d] w fun e w' => e = .panicked (thrown (fltV a b c d)) ∧ Below w.heap.size w w' := by
  simp only [fltV]
  go_enter Tryz.func17, Tryz.ntmps17
  go_wp2_with fail
  exact ⟨rfl, rfl, (Below.refl _ _).alloc (Nat.le_refl _) _⟩
theorem twice_yes (w : World) : Calls Tryz.prog 21 #[.bool true] w fun e w' => e = .returned (.int .i64 40) ∧ w' = w := by
  go_enter Tryz.func21, Tryz.ntmps21
  go_wp2_with fail
  go_ret
  exact ⟨rfl, rfl⟩
theorem twice_no (w : World) : Calls Tryz.prog 21 #[.bool false] w fun e w' => e = .returned (.int .i64 0) ∧ w' = w := by
  go_enter Tryz.func21, Tryz.ntmps21
  go_wp2_with fail
  go_ret
  exact ⟨rfl, rfl⟩
end Go.Proofs.YtdhljfblkidohaaGreat
