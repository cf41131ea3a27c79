/- expr.kids, expr.named: how many parts a Kind has, and whether its text is a name. -/
import Derived.Test.YtlenenfgedgmhaaDoorNd
namespace Go.Proofs.YtlenenfgedgmhaaDoor
set_option linter.unusedSimpArgs false
set_option linter.unusedVariables false
open Go.RowKit

set_option maxRecDepth 100000 in
set_option maxHeartbeats 4000000 in
theorem p_kids (k : Int) (W : World) : Calls Tryd.prog 64 #[.int .i64 k] W fun e w' => e = .returned (.int .i64 (kidsN k)) ∧ w' = W := by
  rcases (show (k < 1) ∨ (1 ≤ k ∧ k ≤ 7) ∨ (8 ≤ k ∧ k ≤ 19) ∨ (20 ≤ k ∧ k ≤ 28) ∨ (k = 29) ∨ (k = 30) ∨ (31 ≤ k ∧ k ≤ 34) ∨ (34 < k) by omega) with h | h | h | h | h | h | h | h
  · have hv : kidsN k = -1 := by unfold kidsN; (repeat' split) <;> omega
    rw [hv]
    have t0 : decide (1 ≤ k) = false := by simp; omega
    have t1 : decide (k ≤ 7) = true := by simp; omega
    have t2 : decide (8 ≤ k) = false := by simp; omega
    have t3 : decide (k ≤ 19) = true := by simp; omega
    have t4 : decide (20 ≤ k) = false := by simp; omega
    have t5 : decide (k ≤ 28) = true := by simp; omega
    have t6 : decide (31 ≤ k) = false := by simp; omega
    have t7 : decide (k ≤ 34) = true := by simp; omega
    have q29 : (k == 29) = false := by simp; omega
    have q30 : (k == 30) = false := by simp; omega
    clear hv h
    go_enter Tryd.func64, Tryd.ntmps64
    go_wp2_with fail
    go_ret
    exact ⟨rfl, rfl⟩
  · have hv : kidsN k = 0 := by unfold kidsN; (repeat' split) <;> omega
    rw [hv]
    have t0 : decide (1 ≤ k) = true := by simp; omega
    have t1 : decide (k ≤ 7) = true := by simp; omega
    have t2 : decide (8 ≤ k) = false := by simp; omega
    have t3 : decide (k ≤ 19) = true := by simp; omega
    have t4 : decide (20 ≤ k) = false := by simp; omega
    have t5 : decide (k ≤ 28) = true := by simp; omega
    have t6 : decide (31 ≤ k) = false := by simp; omega
    have t7 : decide (k ≤ 34) = true := by simp; omega
    have q29 : (k == 29) = false := by simp; omega
    have q30 : (k == 30) = false := by simp; omega
    clear hv h
    go_enter Tryd.func64, Tryd.ntmps64
    go_wp2_with fail
    go_ret
    exact ⟨rfl, rfl⟩
  · have hv : kidsN k = 1 := by unfold kidsN; (repeat' split) <;> omega
    rw [hv]
    have t0 : decide (1 ≤ k) = true := by simp; omega
    have t1 : decide (k ≤ 7) = false := by simp; omega
    have t2 : decide (8 ≤ k) = true := by simp; omega
    have t3 : decide (k ≤ 19) = true := by simp; omega
    have t4 : decide (20 ≤ k) = false := by simp; omega
    have t5 : decide (k ≤ 28) = true := by simp; omega
    have t6 : decide (31 ≤ k) = false := by simp; omega
    have t7 : decide (k ≤ 34) = true := by simp; omega
    have q29 : (k == 29) = false := by simp; omega
    have q30 : (k == 30) = false := by simp; omega
    clear hv h
    go_enter Tryd.func64, Tryd.ntmps64
    go_wp2_with fail
    go_ret
    exact ⟨rfl, rfl⟩
  · have hv : kidsN k = 2 := by unfold kidsN; (repeat' split) <;> omega
    rw [hv]
    have t0 : decide (1 ≤ k) = true := by simp; omega
    have t1 : decide (k ≤ 7) = false := by simp; omega
    have t2 : decide (8 ≤ k) = true := by simp; omega
    have t3 : decide (k ≤ 19) = false := by simp; omega
    have t4 : decide (20 ≤ k) = true := by simp; omega
    have t5 : decide (k ≤ 28) = true := by simp; omega
    have t6 : decide (31 ≤ k) = false := by simp; omega
    have t7 : decide (k ≤ 34) = true := by simp; omega
    have q29 : (k == 29) = false := by simp; omega
    have q30 : (k == 30) = false := by simp; omega
    clear hv h
    go_enter Tryd.func64, Tryd.ntmps64
    go_wp2_with fail
    go_ret
    exact ⟨rfl, rfl⟩
  · have hv : kidsN k = 1 := by unfold kidsN; subst h; decide
    rw [hv]
    subst h

    clear hv
    go_enter Tryd.func64, Tryd.ntmps64
    go_wp2_with fail
    go_ret
    exact ⟨rfl, rfl⟩
  · have hv : kidsN k = 3 := by unfold kidsN; subst h; decide
    rw [hv]
    subst h

    clear hv
    go_enter Tryd.func64, Tryd.ntmps64
    go_wp2_with fail
    go_ret
    exact ⟨rfl, rfl⟩
  · have hv : kidsN k = 2 := by unfold kidsN; (repeat' split) <;> omega
    rw [hv]
    have t0 : decide (1 ≤ k) = true := by simp; omega
    have t1 : decide (k ≤ 7) = false := by simp; omega
    have t2 : decide (8 ≤ k) = true := by simp; omega
    have t3 : decide (k ≤ 19) = false := by simp; omega
    have t4 : decide (20 ≤ k) = true := by simp; omega
    have t5 : decide (k ≤ 28) = false := by simp; omega
    have t6 : decide (31 ≤ k) = true := by simp; omega
    have t7 : decide (k ≤ 34) = true := by simp; omega
    have q29 : (k == 29) = false := by simp; omega
    have q30 : (k == 30) = false := by simp; omega
    clear hv h
    go_enter Tryd.func64, Tryd.ntmps64
    go_wp2_with fail
    go_ret
    exact ⟨rfl, rfl⟩
  · have hv : kidsN k = -1 := by unfold kidsN; (repeat' split) <;> omega
    rw [hv]
    have t0 : decide (1 ≤ k) = true := by simp; omega
    have t1 : decide (k ≤ 7) = false := by simp; omega
    have t2 : decide (8 ≤ k) = true := by simp; omega
    have t3 : decide (k ≤ 19) = false := by simp; omega
    have t4 : decide (20 ≤ k) = true := by simp; omega
    have t5 : decide (k ≤ 28) = false := by simp; omega
    have t6 : decide (31 ≤ k) = true := by simp; omega
    have t7 : decide (k ≤ 34) = false := by simp; omega
    have q29 : (k == 29) = false := by simp; omega
    have q30 : (k == 30) = false := by simp; omega
    clear hv h
    go_enter Tryd.func64, Tryd.ntmps64
    go_wp2_with fail
    go_ret
    exact ⟨rfl, rfl⟩
set_option maxRecDepth 100000 in
set_option maxHeartbeats 4000000 in
theorem p_named (k : Int) (W : World) : Calls Tryd.prog 65 #[.int .i64 k] W fun e w' => e = .returned (.bool (decide (k ∈ namedL))) ∧ w' = W := by
  by_cases h : k ∈ namedL
  · rw [decide_eq_true h]
    simp only [namedL, List.mem_cons, List.not_mem_nil, or_false] at h
    rcases h with rfl | rfl | rfl | rfl | rfl | rfl | rfl | rfl | rfl | rfl
    · go_enter Tryd.func65, Tryd.ntmps65
      go_wp2_with fail
      go_ret
      exact ⟨rfl, rfl⟩
    · go_enter Tryd.func65, Tryd.ntmps65
      go_wp2_with fail
      go_ret
      exact ⟨rfl, rfl⟩
    · go_enter Tryd.func65, Tryd.ntmps65
      go_wp2_with fail
      go_ret
      exact ⟨rfl, rfl⟩
    · go_enter Tryd.func65, Tryd.ntmps65
      go_wp2_with fail
      go_ret
      exact ⟨rfl, rfl⟩
    · go_enter Tryd.func65, Tryd.ntmps65
      go_wp2_with fail
      go_ret
      exact ⟨rfl, rfl⟩
    · go_enter Tryd.func65, Tryd.ntmps65
      go_wp2_with fail
      go_ret
      exact ⟨rfl, rfl⟩
    · go_enter Tryd.func65, Tryd.ntmps65
      go_wp2_with fail
      go_ret
      exact ⟨rfl, rfl⟩
    · go_enter Tryd.func65, Tryd.ntmps65
      go_wp2_with fail
      go_ret
      exact ⟨rfl, rfl⟩
    · go_enter Tryd.func65, Tryd.ntmps65
      go_wp2_with fail
      go_ret
      exact ⟨rfl, rfl⟩
    · go_enter Tryd.func65, Tryd.ntmps65
      go_wp2_with fail
      go_ret
      exact ⟨rfl, rfl⟩
  · rw [decide_eq_false h]
    simp only [namedL, List.mem_cons, List.not_mem_nil, or_false, not_or] at h
    obtain ⟨h7, h8, h9, h10, h12, h13, h31, h32, h33, h34⟩ := h
    have q7 : (k == 7) = false := by simpa using h7
    have q8 : (k == 8) = false := by simpa using h8
    have q9 : (k == 9) = false := by simpa using h9
    have q10 : (k == 10) = false := by simpa using h10
    have q12 : (k == 12) = false := by simpa using h12
    have q13 : (k == 13) = false := by simpa using h13
    have q31 : (k == 31) = false := by simpa using h31
    have q32 : (k == 32) = false := by simpa using h32
    have q33 : (k == 33) = false := by simpa using h33
    have q34 : (k == 34) = false := by simpa using h34
    clear h7 h8 h9 h10 h12 h13 h31 h32 h33 h34
    go_enter Tryd.func65, Tryd.ntmps65
    go_wp2_with fail
    go_ret
    exact ⟨rfl, rfl⟩
end Go.Proofs.YtlenenfgedgmhaaDoor
