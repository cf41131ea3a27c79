/- The little functions of chapter 04's laws: rest, sizes. -/
import Derived.Test.YtdhljfblkidohaaGreatOwn
import Derived.Test.YtdhljfblkidohaaGreatProg
import Derived.WalkSpells
namespace Go.Proofs.YtdhljfblkidohaaGreat
set_option linter.unusedSimpArgs false
set_option linter.unusedVariables false
open Go.RowKit

theorem wrapU_nat {n : Nat} (h : n ≤ maxLen) : IntKind.u64.wrap (n : Int) = n := by
  unfold maxLen at h
  simp [IntKind.wrap, IntKind.bits, IntKind.signed]
  omega
theorem wrapU_range (x : Int) : 0 ≤ IntKind.u64.wrap x ∧ IntKind.u64.wrap x < 18446744073709551616 := by
  simp [IntKind.wrap, IntKind.bits, IntKind.signed]
  omega
/-- a number's rest -/
def restN (x : Int) (n : Nat) : Nat := (IntKind.u64.wrap x % (n : Int)).toNat
theorem restN_lt (x : Int) {n : Nat} (hn : 0 < n) : restN x n < n := by
  have h1 := Int.emod_nonneg (IntKind.u64.wrap x) (show (n : Int) ≠ 0 by omega)
  have h2 := Int.emod_lt_of_pos (IntKind.u64.wrap x) (show (0 : Int) < n by omega)
  unfold restN
  omega
theorem rest_any (w : World) (x : Int) (n : Nat) (hn : 0 < n) (hn2 : n ≤ maxLen) :
    Calls Tryz.prog 9 #[.int .i64 x, .int .i64 n] w fun e w' => e = .returned (.int .i64 (restN x n : Int)) ∧ Quiet w w' := by
  have hu := wrapU_nat hn2
  have h0 : ¬ IntKind.u64.wrap (n : Int) = 0 := by omega
  obtain ⟨k0, k1⟩ := wrapU_range x
  have hr2 : wrap64 (IntKind.u64.wrap x % (n : Int)) = (restN x n : Int) := by
    have h1 := Int.emod_nonneg (IntKind.u64.wrap x) (show (n : Int) ≠ 0 by omega)
    have h2 := Int.emod_lt_of_pos (IntKind.u64.wrap x) (show (0 : Int) < n by omega)
    unfold restN
    unfold maxLen at hn2
    unfold wrap64
    omega
  go_enter Tryz.func9, Tryz.ntmps9
  go_wp2_with fail
  go_ret
  exact ⟨by rw [← hr2]; rfl, Quiet.refl _⟩
theorem sizes_any (w : World) (e0 : ByteArray) (e1 : Int) (e2 : Option Addr) (n2 c2 : Nat) (e3 : Option Addr) (n3 c3 : Nat) (e4 : Option Addr) (n4 c4 : Nat) (e5 : Option Addr) (n5 c5 : Nat) (e6 : Option Addr) (n6 c6 : Nat) (e7 : Option Addr) (n7 c7 : Nat) :
    Calls Tryz.prog 10 #[.agg #[.string e0, .int .i64 e1, .slice e2 n2 c2, .slice e3 n3 c3, .slice e4 n4 c4, .slice e5 n5 c5, .slice e6 n6 c6, .slice e7 n7 c7]] w fun e w' => e = .returned (.agg #[.int .i64 2, .int .i64 n2, .int .i64 n3, .int .i64 n4, .int .i64 n5, .int .i64 n6, .int .i64 n7]) ∧ Below w.heap.size w w' := by
  go_enter Tryz.func10, Tryz.ntmps10
  go_wp2_with fail
  refine bodyPost_ret (v := .agg #[.int .i64 2, .int .i64 n2, .int .i64 n3, .int .i64 n4, .int .i64 n5, .int .i64 n6, .int .i64 n7]) (by simp [results, Tryz.results10, go_sem]) rfl ⟨rfl, ?_⟩
  exact ((Below.refl w.heap.size w).alloc (Nat.le_refl _) _).alloc (below2 (Nat.le_refl _)) _
end Go.Proofs.YtdhljfblkidohaaGreat
