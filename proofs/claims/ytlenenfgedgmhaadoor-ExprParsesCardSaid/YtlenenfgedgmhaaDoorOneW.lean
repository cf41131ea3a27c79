/- The parser's 'one': what a word stands for. -/
import Derived.Test.YtlenenfgedgmhaaDoorMark
namespace Go.Proofs.YtlenenfgedgmhaaDoor
set_option linter.unusedSimpArgs false
set_option linter.unusedVariables false
open Go.RowKit

theorem p_one_and (W : World) : Calls Tryd.prog 86 #[.string ⟨#[97, 110, 100]⟩] W fun e w' => e = .returned (.tuple #[.int .i64 0, .int .i64 0]) ∧ w' = W := by
  go_enter Tryd.func86, Tryd.ntmps86
  go_wp2_with fail
  go_ret2
  exact ⟨rfl, rfl⟩
theorem p_one_any (W : World) : Calls Tryd.prog 86 #[.string ⟨#[97, 110, 121]⟩] W fun e w' => e = .returned (.tuple #[.int .i64 31, .int .i64 2]) ∧ w' = W := by
  go_enter Tryd.func86, Tryd.ntmps86
  go_wp2_with fail
  go_ret2
  exact ⟨rfl, rfl⟩
theorem p_one_concept (W : World) : Calls Tryd.prog 86 #[.string ⟨#[99, 111, 110, 99, 101, 112, 116]⟩] W fun e w' => e = .returned (.tuple #[.int .i64 17, .int .i64 1]) ∧ w' = W := by
  go_enter Tryd.func86, Tryd.ntmps86
  go_wp2_with fail
  go_ret2
  exact ⟨rfl, rfl⟩
theorem p_one_else (W : World) : Calls Tryd.prog 86 #[.string ⟨#[101, 108, 115, 101]⟩] W fun e w' => e = .returned (.tuple #[.int .i64 0, .int .i64 0]) ∧ w' = W := by
  go_enter Tryd.func86, Tryd.ntmps86
  go_wp2_with fail
  go_ret2
  exact ⟨rfl, rfl⟩
theorem p_one_end (W : World) : Calls Tryd.prog 86 #[.string ⟨#[101, 110, 100]⟩] W fun e w' => e = .returned (.tuple #[.int .i64 0, .int .i64 0]) ∧ w' = W := by
  go_enter Tryd.func86, Tryd.ntmps86
  go_wp2_with fail
  go_ret2
  exact ⟨rfl, rfl⟩
theorem p_one_every (W : World) : Calls Tryd.prog 86 #[.string ⟨#[101, 118, 101, 114, 121]⟩] W fun e w' => e = .returned (.tuple #[.int .i64 32, .int .i64 2]) ∧ w' = W := by
  go_enter Tryd.func86, Tryd.ntmps86
  go_wp2_with fail
  go_ret2
  exact ⟨rfl, rfl⟩
theorem p_one_false (W : World) : Calls Tryd.prog 86 #[.string ⟨#[102, 97, 108, 115, 101]⟩] W fun e w' => e = .returned (.tuple #[.int .i64 4, .int .i64 0]) ∧ w' = W := by
  go_enter Tryd.func86, Tryd.ntmps86
  go_wp2_with fail
  go_ret2
  exact ⟨rfl, rfl⟩
theorem p_one_first (W : World) : Calls Tryd.prog 86 #[.string ⟨#[102, 105, 114, 115, 116]⟩] W fun e w' => e = .returned (.tuple #[.int .i64 15, .int .i64 1]) ∧ w' = W := by
  go_enter Tryd.func86, Tryd.ntmps86
  go_wp2_with fail
  go_ret2
  exact ⟨rfl, rfl⟩
theorem p_one_id (W : World) : Calls Tryd.prog 86 #[.string ⟨#[105, 100]⟩] W fun e w' => e = .returned (.tuple #[.int .i64 18, .int .i64 1]) ∧ w' = W := by
  go_enter Tryd.func86, Tryd.ntmps86
  go_wp2_with fail
  go_ret2
  exact ⟨rfl, rfl⟩
theorem p_one_if (W : World) : Calls Tryd.prog 86 #[.string ⟨#[105, 102]⟩] W fun e w' => e = .returned (.tuple #[.int .i64 30, .int .i64 3]) ∧ w' = W := by
  go_enter Tryd.func86, Tryd.ntmps86
  go_wp2_with fail
  go_ret2
  exact ⟨rfl, rfl⟩
theorem p_one_in (W : World) : Calls Tryd.prog 86 #[.string ⟨#[105, 110]⟩] W fun e w' => e = .returned (.tuple #[.int .i64 0, .int .i64 0]) ∧ w' = W := by
  go_enter Tryd.func86, Tryd.ntmps86
  go_wp2_with fail
  go_ret2
  exact ⟨rfl, rfl⟩
theorem p_one_int (W : World) : Calls Tryd.prog 86 #[.string ⟨#[105, 110, 116]⟩] W fun e w' => e = .returned (.tuple #[.int .i64 19, .int .i64 1]) ∧ w' = W := by
  go_enter Tryd.func86, Tryd.ntmps86
  go_wp2_with fail
  go_ret2
  exact ⟨rfl, rfl⟩
theorem p_one_none (W : World) : Calls Tryd.prog 86 #[.string ⟨#[110, 111, 110, 101]⟩] W fun e w' => e = .returned (.tuple #[.int .i64 6, .int .i64 0]) ∧ w' = W := by
  go_enter Tryd.func86, Tryd.ntmps86
  go_wp2_with fail
  go_ret2
  exact ⟨rfl, rfl⟩
theorem p_one_not (W : World) : Calls Tryd.prog 86 #[.string ⟨#[110, 111, 116]⟩] W fun e w' => e = .returned (.tuple #[.int .i64 0, .int .i64 0]) ∧ w' = W := by
  go_enter Tryd.func86, Tryd.ntmps86
  go_wp2_with fail
  go_ret2
  exact ⟨rfl, rfl⟩
theorem p_one_only (W : World) : Calls Tryd.prog 86 #[.string ⟨#[111, 110, 108, 121]⟩] W fun e w' => e = .returned (.tuple #[.int .i64 33, .int .i64 2]) ∧ w' = W := by
  go_enter Tryd.func86, Tryd.ntmps86
  go_wp2_with fail
  go_ret2
  exact ⟨rfl, rfl⟩
theorem p_one_or (W : World) : Calls Tryd.prog 86 #[.string ⟨#[111, 114]⟩] W fun e w' => e = .returned (.tuple #[.int .i64 0, .int .i64 0]) ∧ w' = W := by
  go_enter Tryd.func86, Tryd.ntmps86
  go_wp2_with fail
  go_ret2
  exact ⟨rfl, rfl⟩
theorem p_one_self (W : World) : Calls Tryd.prog 86 #[.string ⟨#[115, 101, 108, 102]⟩] W fun e w' => e = .returned (.tuple #[.int .i64 5, .int .i64 0]) ∧ w' = W := by
  go_enter Tryd.func86, Tryd.ntmps86
  go_wp2_with fail
  go_ret2
  exact ⟨rfl, rfl⟩
theorem p_one_size (W : World) : Calls Tryd.prog 86 #[.string ⟨#[115, 105, 122, 101]⟩] W fun e w' => e = .returned (.tuple #[.int .i64 14, .int .i64 1]) ∧ w' = W := by
  go_enter Tryd.func86, Tryd.ntmps86
  go_wp2_with fail
  go_ret2
  exact ⟨rfl, rfl⟩
theorem p_one_sum (W : World) : Calls Tryd.prog 86 #[.string ⟨#[115, 117, 109]⟩] W fun e w' => e = .returned (.tuple #[.int .i64 34, .int .i64 2]) ∧ w' = W := by
  go_enter Tryd.func86, Tryd.ntmps86
  go_wp2_with fail
  go_ret2
  exact ⟨rfl, rfl⟩
theorem p_one_text (W : World) : Calls Tryd.prog 86 #[.string ⟨#[116, 101, 120, 116]⟩] W fun e w' => e = .returned (.tuple #[.int .i64 16, .int .i64 1]) ∧ w' = W := by
  go_enter Tryd.func86, Tryd.ntmps86
  go_wp2_with fail
  go_ret2
  exact ⟨rfl, rfl⟩
theorem p_one_then (W : World) : Calls Tryd.prog 86 #[.string ⟨#[116, 104, 101, 110]⟩] W fun e w' => e = .returned (.tuple #[.int .i64 0, .int .i64 0]) ∧ w' = W := by
  go_enter Tryd.func86, Tryd.ntmps86
  go_wp2_with fail
  go_ret2
  exact ⟨rfl, rfl⟩
theorem p_one_true (W : World) : Calls Tryd.prog 86 #[.string ⟨#[116, 114, 117, 101]⟩] W fun e w' => e = .returned (.tuple #[.int .i64 3, .int .i64 0]) ∧ w' = W := by
  go_enter Tryd.func86, Tryd.ntmps86
  go_wp2_with fail
  go_ret2
  exact ⟨rfl, rfl⟩
theorem p_one {s : List Nat} (hs : s ∈ wordsL) (W : World) : Calls Tryd.prog 86 #[.string (txt s)] W fun e w' => e = .returned (.tuple #[.int .i64 ((oneN s).1 : Int), .int .i64 ((oneN s).2 : Int)]) ∧ w' = W := by
  simp only [wordsL, List.mem_cons, List.not_mem_nil, or_false] at hs
  rcases hs with rfl | rfl | rfl | rfl | rfl | rfl | rfl | rfl | rfl | rfl | rfl | rfl | rfl | rfl | rfl | rfl | rfl | rfl | rfl | rfl | rfl | rfl
  · exact p_one_and W
  · exact p_one_any W
  · exact p_one_concept W
  · exact p_one_else W
  · exact p_one_end W
  · exact p_one_every W
  · exact p_one_false W
  · exact p_one_first W
  · exact p_one_id W
  · exact p_one_if W
  · exact p_one_in W
  · exact p_one_int W
  · exact p_one_none W
  · exact p_one_not W
  · exact p_one_only W
  · exact p_one_or W
  · exact p_one_self W
  · exact p_one_size W
  · exact p_one_sum W
  · exact p_one_text W
  · exact p_one_then W
  · exact p_one_true W
end Go.Proofs.YtlenenfgedgmhaaDoor
