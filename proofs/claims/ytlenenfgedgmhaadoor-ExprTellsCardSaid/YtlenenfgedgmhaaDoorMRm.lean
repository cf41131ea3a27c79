/- The reference's kids, Reserved, may. The reference's tight, sign. -/
import Derived.Test.YtlenenfgedgmhaaDoorRg1
import Derived.Test.YtlenenfgedgmhaaDoorMRSmall
import Derived.Test.YtlenenfgedgmhaaDoorTl2
namespace Go.Proofs.YtlenenfgedgmhaaDoor
set_option linter.unusedSimpArgs false
set_option linter.unusedVariables false
open Go.RowKit

theorem txt_at {W : World} {B g n c k : Nat} {L : List (List Nat)} {m : List Nat} (h : SlR W B 1 IsTxt (.slice (some ⟨g, 0, none⟩) n c) L) (hk : L[k]? = some m) : W.cell? ⟨g, k, none⟩ = some (.string (txt m)) ∧ Bytes m := by
  obtain ⟨b, off, x, hsome, _, _, ⟨rfl, hb, _⟩, hx⟩ := h.at_ hk
  injection hsome with hsome
  injection hsome with e1 e2
  subst e1 e2
  have h0 := hx 0 _ rfl
  simp only [Nat.mul_one, Nat.add_zero, Nat.zero_add] at h0
  exact ⟨h0, hb⟩
set_option maxRecDepth 100000 in
set_option maxHeartbeats 4000000 in
theorem r_kids (k : Int) (W : World) : Calls Tryd.prog 67 #[.int .i64 k] W fun e w' => e = .returned (.int .i64 (kidsN k)) ∧ w' = W := by
  rcases (show (k < 1) ∨ (1 ≤ k ∧ k ≤ 7) ∨ (8 ≤ k ∧ k ≤ 19) ∨ (20 ≤ k ∧ k ≤ 28) ∨ (k = 29) ∨ (k = 30) ∨ (31 ≤ k ∧ k ≤ 34) ∨ (34 < k) by omega) with h | h | h | h | h | h | h | h
  · have hv : kidsN k = -1 := by unfold kidsN; (repeat' split) <;> omega
    rw [hv]
    have t0 : decide (k < 1) = true := by simp; omega
    have t1 : decide (34 < k) = false := by simp; omega
    have t2 : decide (k ≤ 7) = true := by simp; omega
    have t3 : decide (k ≤ 19) = true := by simp; omega
    have q29 : (k == 29) = false := by simp; omega
    have q30 : (k == 30) = false := by simp; omega
    clear hv h
    go_enter Tryd.func67, Tryd.ntmps67
    go_wp2_with fail
    go_ret
    exact ⟨rfl, rfl⟩
  · have hv : kidsN k = 0 := by unfold kidsN; (repeat' split) <;> omega
    rw [hv]
    have t0 : decide (k < 1) = false := by simp; omega
    have t1 : decide (34 < k) = false := by simp; omega
    have t2 : decide (k ≤ 7) = true := by simp; omega
    have t3 : decide (k ≤ 19) = true := by simp; omega
    have q29 : (k == 29) = false := by simp; omega
    have q30 : (k == 30) = false := by simp; omega
    clear hv h
    go_enter Tryd.func67, Tryd.ntmps67
    go_wp2_with fail
    go_ret
    exact ⟨rfl, rfl⟩
  · have hv : kidsN k = 1 := by unfold kidsN; (repeat' split) <;> omega
    rw [hv]
    have t0 : decide (k < 1) = false := by simp; omega
    have t1 : decide (34 < k) = false := by simp; omega
    have t2 : decide (k ≤ 7) = false := by simp; omega
    have t3 : decide (k ≤ 19) = true := by simp; omega
    have q29 : (k == 29) = false := by simp; omega
    have q30 : (k == 30) = false := by simp; omega
    clear hv h
    go_enter Tryd.func67, Tryd.ntmps67
    go_wp2_with fail
    go_ret
    exact ⟨rfl, rfl⟩
  · have hv : kidsN k = 2 := by unfold kidsN; (repeat' split) <;> omega
    rw [hv]
    have t0 : decide (k < 1) = false := by simp; omega
    have t1 : decide (34 < k) = false := by simp; omega
    have t2 : decide (k ≤ 7) = false := by simp; omega
    have t3 : decide (k ≤ 19) = false := by simp; omega
    have q29 : (k == 29) = false := by simp; omega
    have q30 : (k == 30) = false := by simp; omega
    clear hv h
    go_enter Tryd.func67, Tryd.ntmps67
    go_wp2_with fail
    go_ret
    exact ⟨rfl, rfl⟩
  · have hv : kidsN k = 1 := by unfold kidsN; (repeat' split) <;> omega
    rw [hv]
    have t0 : decide (k < 1) = false := by simp; omega
    have t1 : decide (34 < k) = false := by simp; omega
    have t2 : decide (k ≤ 7) = false := by simp; omega
    have t3 : decide (k ≤ 19) = false := by simp; omega
    have q29 : (k == 29) = true := by simp; omega
    have q30 : (k == 30) = false := by simp; omega
    clear hv h
    go_enter Tryd.func67, Tryd.ntmps67
    go_wp2_with fail
    go_ret
    exact ⟨rfl, rfl⟩
  · have hv : kidsN k = 3 := by unfold kidsN; (repeat' split) <;> omega
    rw [hv]
    have t0 : decide (k < 1) = false := by simp; omega
    have t1 : decide (34 < k) = false := by simp; omega
    have t2 : decide (k ≤ 7) = false := by simp; omega
    have t3 : decide (k ≤ 19) = false := by simp; omega
    have q29 : (k == 29) = false := by simp; omega
    have q30 : (k == 30) = true := by simp; omega
    clear hv h
    go_enter Tryd.func67, Tryd.ntmps67
    go_wp2_with fail
    go_ret
    exact ⟨rfl, rfl⟩
  · have hv : kidsN k = 2 := by unfold kidsN; (repeat' split) <;> omega
    rw [hv]
    have t0 : decide (k < 1) = false := by simp; omega
    have t1 : decide (34 < k) = false := by simp; omega
    have t2 : decide (k ≤ 7) = false := by simp; omega
    have t3 : decide (k ≤ 19) = false := by simp; omega
    have q29 : (k == 29) = false := by simp; omega
    have q30 : (k == 30) = false := by simp; omega
    clear hv h
    go_enter Tryd.func67, Tryd.ntmps67
    go_wp2_with fail
    go_ret
    exact ⟨rfl, rfl⟩
  · have hv : kidsN k = -1 := by unfold kidsN; (repeat' split) <;> omega
    rw [hv]
    have t0 : decide (k < 1) = false := by simp; omega
    have t1 : decide (34 < k) = true := by simp; omega
    have t2 : decide (k ≤ 7) = false := by simp; omega
    have t3 : decide (k ≤ 19) = false := by simp; omega
    have q29 : (k == 29) = false := by simp; omega
    have q30 : (k == 30) = false := by simp; omega
    clear hv h
    go_enter Tryd.func67, Tryd.ntmps67
    go_wp2_with fail
    go_ret
    exact ⟨rfl, rfl⟩
set_option maxRecDepth 100000 in
set_option maxHeartbeats 4000000 in
theorem r_reserved (s : List Nat) (hb : Bytes s) (W : World) : Calls Tryd.prog 69 #[.string (txt s)] W fun e w' => e = .returned (.bool (decide (s ∈ wordsL))) ∧ Below W.heap.size W w' := by
  go_enter Tryd.func69, Tryd.ntmps69
  go_wp2_with fail
  generalize hwq : World.alloc _ _ = W1
  have B1 : Hid (Below W.heap.size W W1) := Lib.hid (by rw [← hwq]; exact (Below.refl _ _).alloc (Nat.le_refl _) _)
  have R1 : Hid (SlR W1 W1.heap.size 1 IsTxt (.slice (some ⟨W.heap.size, 0, none⟩) 22 22) wordsL) := Lib.hid (by rw [← hwq]; exact texts_read wordsL (by unfold Bytes; decide) (by decide) (Blk.new W 9 _) 22 22 rfl rfl)
  clear hwq
  obtain ⟨xs, hxs⟩ : ∃ z, W.heap.size = z := ⟨_, rfl⟩
  have HXS := Lib.hid hxs
  have HB := Lib.hid hb
  rw [hxs] at R1 ⊢
  clear hxs hb
  go_loopw [2, 4] (fun _ j wr => ∃ i : Nat, i ≤ 22 ∧ j = .int .i64 (i : Int) ∧ Hid (¬ s ∈ wordsL.take i) ∧ W1 = wr) (fun _ j _ => 22 - (intOf j).toNat)
  case atStart => exact ⟨0, by omega, by go_num, by simp [Hid], rfl⟩
  case round =>
    obtain ⟨i, hi, rfl, hin, rfl⟩ := hrel
    have b1 : (0 : Int) ≤ (i : Int) := Int.natCast_nonneg _
    by_cases hlt : i < 22
    · obtain ⟨y, hd⟩ := get_some (l := wordsL) (n := 22) rfl hlt
      have hc6 : (i : Int) < 22 := by omega
      obtain ⟨t1, hyb⟩ := txt_at R1.out hd
      have hkl := (List.getElem?_eq_some_iff.1 hd).1
      by_cases hcd : y = s
      · subst hcd
        have hv : decide (y ∈ wordsL) = true := by simp; exact List.mem_iff_getElem?.2 ⟨i, hd⟩
        have e1 : ((txt y).toList == (txt y).toList) = true := beq_self_eq_true _
        have HV := Lib.hid hv
        clear hv hd hkl hin
        go_wp2_with fail
        go_ret
        exact ⟨by rw [HV.out]; rfl, B1.out⟩
      · have e1 : ((txt y).toList == (txt s).toList) = false := by
          rw [beq_eq_false_iff_ne]
          intro e
          have := (toList_inj _ _).1 e
          exact hcd (by rw [← bs_txt hyb, this, bs_txt HB.out])
        have hnot : ¬ s ∈ wordsL.take (i + 1) := by
          rw [List.take_succ_eq_append_getElem hkl, (List.getElem?_eq_some_iff.1 hd).2]
          intro hx
          rcases List.mem_append.1 hx with hx | hx
          · exact hin.out hx
          · simp at hx; exact hcd hx.symm
        have Hnot := Lib.hid hnot
        clear hnot hd hkl hcd hin
        go_wp2_with fail
        go_roundw
        case rel => exact ⟨i + 1, by omega, by go_num, Hnot, by first | rfl | trivial⟩
        case measure => simp [intOf]; omega
    · obtain rfl : i = 22 := by omega
      have djj : decide (((22 : Nat) : Int) < 22) = false := by decide
      have hv : decide (s ∈ wordsL) = false := by
        have := hin.out
        rw [List.take_of_length_le (by decide)] at this
        simpa using this
      have HV := Lib.hid hv
      clear hv hlt hin
      go_wp2_with fail
      go_ret
      exact ⟨by rw [HV.out]; rfl, B1.out⟩

set_option maxRecDepth 100000 in
set_option maxHeartbeats 16000000 in
theorem r_may (k : Int) (s : List Nat) (n : Int) (ks : List Int) (ka : Option Addr) (kn kc : Nat) (hkn : kn = ks.length) (hk63 : kn ≤ 9223372036854775807) (hb : Bytes s) (hl : s.length ≤ 140737488355328) (w : World) :
    Calls Tryd.prog 36 #[.agg #[.int .i64 k, .string (txt s), .int .i64 n, .slice ka kn kc]] w fun e w' => e = .returned (.bool (mayE ⟨k, s, n, ks⟩)) ∧ Below w.heap.size w w' := by
  rw [mayE_def, ← hkn]
  have BX : Hid (Below w.heap.size w (w.alloc (.cells #[.int .i64 k, .string (txt s), .int .i64 n, .slice ka kn kc] 46))) := Lib.hid ((Below.refl _ _).alloc (Nat.le_refl _) _)
  have KD : Hid (∀ W, Calls Tryd.prog 67 #[.int .i64 k] W fun e w' => e = .returned (.int .i64 (kidsN k)) ∧ w' = W) := Lib.hid (fun W => r_kids k W)
  have RR : Hid (∀ W, Calls Tryd.prog 68 #[.string (txt s)] W fun e w' => e = .returned (.bool (rightN s)) ∧ Quiet W w') := Lib.hid (fun W => by
    have := ref_right (txt s) (by rw [txt_size]; unfold maxLen; omega) W
    rw [bs_txt hb] at this
    exact this)
  have RV : Hid (∀ W, Calls Tryd.prog 69 #[.string (txt s)] W fun e w' => e = .returned (.bool (decide (s ∈ wordsL))) ∧ Below W.heap.size W w') := Lib.hid (fun W => r_reserved s hb W)
  have hkr : kidsN k = (kn : Int) → 1 ≤ k ∧ k ≤ 34 := by
    intro h
    unfold kidsN at h
    repeat' split at h
    all_goals omega
  obtain ⟨kd, hkd⟩ : ∃ z, kidsN k = z := ⟨_, rfl⟩
  rw [hkd] at KD hkr ⊢
  obtain ⟨sl, hsl⟩ : ∃ z, s.length = z := ⟨_, rfl⟩
  have a7 : ((txt s).size : Int) = (sl : Int) := by rw [txt_size, hsl]
  have e0 : ((txt s).toList == []) = decide (s = []) := by
    by_cases h5 : s = []
    · subst h5; rw [nil_facts]; rfl
    · rw [decide_eq_false h5, beq_eq_false_iff_ne]; exact txt_empty hb h5
  rw [hsl]
  have hin : (k ∈ namedL) ↔ (k = 7 ∨ k = 8 ∨ k = 9 ∨ k = 10 ∨ k = 12 ∨ k = 13 ∨ k = 31 ∨ k = 32 ∨ k = 33 ∨ k = 34) := by simp [namedL]
  clear hkd hkn hb hl hsl
  by_cases h1 : kd = (kn : Int)
  rotate_left
  · have a1 : (kd != (kn : Int)) = true := by simpa using h1
    rw [decide_eq_false h1]
    simp only [Bool.false_and]
    clear h1 hkr hin e0
    go_enter Tryd.func36, Tryd.ntmps36
    go_wp2_with fail
    go_quiet ((go_at_call 67; with_reducible exact quiet_callw (KD.out _)))
    go_wp2_with fail
    go_ret
    exact ⟨rfl, below_drewN BX.out _⟩
  have hk := hkr h1
  subst h1
  have a1 : ((kn : Int) != (kn : Int)) = false := by simp
  rw [decide_eq_true rfl]
  by_cases hmin : n = -9223372036854775808
  · subst hmin
    obtain ⟨k1, hk1⟩ : ∃ b, (k != 1) = b := ⟨_, rfl⟩
    rw [decide_eq_true rfl]
    simp only [Bool.not_true, Bool.and_false, Bool.false_and]
    clear hkr hin e0 hk
    cases k1
    all_goals
      go_enter Tryd.func36, Tryd.ntmps36
      go_wp2_with fail
      go_quiet ((go_at_call 67; with_reducible exact quiet_callw (KD.out _)))
      go_wp2_with fail
      go_ret
      exact ⟨rfl, below_drewN BX.out _⟩
  have m1 : (n == -9223372036854775808) = false := by simpa using hmin
  rw [decide_eq_false hmin]
  by_cases hbad : n ≠ 0 ∧ k ≠ 1
  · have k1 : (k != 1) = true := by simpa using hbad.2
    have n1 : (n != 0) = true := by simpa using hbad.1
    rw [decide_eq_true hbad.1, decide_eq_true hbad.2]
    simp only [Bool.and_self, Bool.not_true, Bool.and_false, Bool.false_and]
    clear hkr hin e0 hk hbad hmin
    go_enter Tryd.func36, Tryd.ntmps36
    go_wp2_with fail
    go_quiet ((go_at_call 67; with_reducible exact quiet_callw (KD.out _)))
    go_wp2_with fail
    go_ret
    exact ⟨rfl, below_drewN BX.out _⟩
  have hok : (decide (n ≠ 0) && decide (k ≠ 1)) = false := by
    by_cases hz : n = 0
    · rw [decide_eq_false (fun h => h hz)]; rfl
    · rw [decide_eq_false (p := k ≠ 1) (fun h => hbad ⟨hz, h⟩), Bool.and_false]
  rw [hok]
  simp only [Bool.not_false, Bool.and_self, Bool.true_and]
  have key : (k != 1) = false ∨ ((k != 1) = true ∧ (n != 0) = false) := by
    by_cases h : k = 1
    · left; simpa using h
    · right
      refine ⟨by simpa using h, ?_⟩
      by_cases hz : n = 0
      · simpa using hz
      · exact absurd ⟨hz, h⟩ hbad
  clear hok hbad hmin hkr
  rcases (show (k = 1) ∨ (k = 2) ∨ (3 ≤ k ∧ k ≤ 6) ∨ (7 ≤ k ∧ k ≤ 13 ∧ k ≠ 11) ∨ (k = 11) ∨ (14 ≤ k ∧ k ≤ 30) ∨ (31 ≤ k ∧ k ≤ 34) by omega) with h | h | h | h | h | h | h
  · have f7 : decide (7 ≤ k) = false := by simp only [decide_eq_true_eq, decide_eq_false_iff_not]; omega
    have f13 : decide (k ≤ 13) = true := by simp only [decide_eq_true_eq, decide_eq_false_iff_not]; omega
    have f11 : (k != 11) = true := by simp; omega
    have f31 : decide (31 ≤ k) = false := by simp only [decide_eq_true_eq, decide_eq_false_iff_not]; omega
    have hnm : ¬ k ∈ namedL := fun h => by have := hin.1 h; omega
    rw [if_neg hnm]
    obtain ⟨ce, hce⟩ : ∃ b, decide (s = []) = b := ⟨_, rfl⟩
    rw [hce] at e0 ⊢
    have k1 : (k != 1) = false := by simp; omega
    have g2 : (k == 2) = false := by simp; omega
    rw [decide_eq_false (p := (k = 2)) (by omega), Bool.false_and, Bool.or_false]
    clear hin hk hce hnm key h RR RV
    cases ce
    all_goals
      go_enter Tryd.func36, Tryd.ntmps36
      go_wp2_with fail
      go_quiet ((go_at_call 67; with_reducible exact quiet_callw (KD.out _)))
      go_wp2_with fail
      go_ret
      exact ⟨rfl, below_drewN BX.out _⟩
  · have f7 : decide (7 ≤ k) = false := by simp only [decide_eq_true_eq, decide_eq_false_iff_not]; omega
    have f13 : decide (k ≤ 13) = true := by simp only [decide_eq_true_eq, decide_eq_false_iff_not]; omega
    have f11 : (k != 11) = true := by simp; omega
    have f31 : decide (31 ≤ k) = false := by simp only [decide_eq_true_eq, decide_eq_false_iff_not]; omega
    have hnm : ¬ k ∈ namedL := fun h => by have := hin.1 h; omega
    rw [if_neg hnm]
    obtain ⟨ce, hce⟩ : ∃ b, decide (s = []) = b := ⟨_, rfl⟩
    rw [hce] at e0 ⊢
    have k1 : (k != 1) = true := by simp; omega
    have n1 : (n != 0) = false := by rcases key with q | ⟨_, q⟩; rw [q] at k1; cases k1; exact q
    subst h
    obtain ⟨cl, hcl⟩ : ∃ b, decide (sl ≤ 4096) = b := ⟨_, rfl⟩
    have gl : decide ((sl : Int) ≤ 4096) = cl := by rw [← hcl]; congr 1; apply propext; omega
    rw [hcl, decide_eq_true rfl, Bool.true_and]
    clear hin hk hce hnm key RR RV f7 f13 f11 f31 k1
    cases cl <;> cases ce
    all_goals
      go_enter Tryd.func36, Tryd.ntmps36
      go_wp2_with fail
      go_quiet ((go_at_call 67; with_reducible exact quiet_callw (KD.out _)))
      go_wp2_with fail
      go_ret
      exact ⟨rfl, below_drewN BX.out _⟩
  · have f7 : decide (7 ≤ k) = false := by simp only [decide_eq_true_eq, decide_eq_false_iff_not]; omega
    have f13 : decide (k ≤ 13) = true := by simp only [decide_eq_true_eq, decide_eq_false_iff_not]; omega
    have f11 : (k != 11) = true := by simp; omega
    have f31 : decide (31 ≤ k) = false := by simp only [decide_eq_true_eq, decide_eq_false_iff_not]; omega
    have hnm : ¬ k ∈ namedL := fun h => by have := hin.1 h; omega
    rw [if_neg hnm]
    obtain ⟨ce, hce⟩ : ∃ b, decide (s = []) = b := ⟨_, rfl⟩
    rw [hce] at e0 ⊢
    have k1 : (k != 1) = true := by simp; omega
    have n1 : (n != 0) = false := by rcases key with q | ⟨_, q⟩; rw [q] at k1; cases k1; exact q
    have g2 : (k == 2) = false := by simp; omega
    rw [decide_eq_false (p := (k = 2)) (by omega), Bool.false_and, Bool.or_false]
    clear hin hk hce hnm key h RR RV
    cases ce
    all_goals
      go_enter Tryd.func36, Tryd.ntmps36
      go_wp2_with fail
      go_quiet ((go_at_call 67; with_reducible exact quiet_callw (KD.out _)))
      go_wp2_with fail
      go_ret
      exact ⟨rfl, below_drewN BX.out _⟩
  · have f7 : decide (7 ≤ k) = true := by simp only [decide_eq_true_eq, decide_eq_false_iff_not]; omega
    have f13 : decide (k ≤ 13) = true := by simp only [decide_eq_true_eq, decide_eq_false_iff_not]; omega
    have f11 : (k != 11) = true := by simp; omega
    have f31 : decide (31 ≤ k) = false := by simp only [decide_eq_true_eq, decide_eq_false_iff_not]; omega
    have hnm : k ∈ namedL := hin.2 (by omega)
    have k1 : (k != 1) = true := by simp; omega
    have n1 : (n != 0) = false := by rcases key with q | ⟨_, q⟩; rw [q] at k1; cases k1; exact q
    rw [if_pos hnm]
    unfold plainN
    obtain ⟨rb, hrb⟩ : ∃ b, rightN s = b := ⟨_, rfl⟩
    obtain ⟨vb, hvb⟩ : ∃ b, decide (s ∈ wordsL) = b := ⟨_, rfl⟩
    rw [hrb] at RR ⊢
    rw [hvb] at RV ⊢
    clear hrb hvb hin e0 hk a7 hnm key h
    cases rb
    · rw [Bool.false_and]
      go_enter Tryd.func36, Tryd.ntmps36
      go_wp2_with fail
      go_quiet ((go_at_call 67; with_reducible exact quiet_callw (KD.out _)))
      go_wp2_with (first
          | (go_at_call 68; refine (RR.out _).mono ?_; rintro e w3 ⟨rfl, nq, rfl⟩)
          | (go_at_call 69; refine (RV.out _).mono ?_; rintro e w4 ⟨rfl, b4⟩; have B4 := Lib.hid b4; clear b4))
      go_ret
      exact ⟨rfl, by first | exact (below_drewN BX.out _).trans (B4.out.mono (by have := BX.out.size; exact this)) | exact below_drewN BX.out _⟩
    · cases vb
      all_goals
        go_enter Tryd.func36, Tryd.ntmps36
        go_wp2_with fail
        go_quiet ((go_at_call 67; with_reducible exact quiet_callw (KD.out _)))
        go_wp2_with (first
          | (go_at_call 68; refine (RR.out _).mono ?_; rintro e w3 ⟨rfl, nq, rfl⟩)
          | (go_at_call 69; refine (RV.out _).mono ?_; rintro e w4 ⟨rfl, b4⟩; have B4 := Lib.hid b4; clear b4))
        go_ret
        exact ⟨rfl, by first | exact (below_drewN BX.out _).trans (B4.out.mono (by have := BX.out.size; exact this)) | exact below_drewN BX.out _⟩
  · have f7 : decide (7 ≤ k) = true := by simp only [decide_eq_true_eq, decide_eq_false_iff_not]; omega
    have f13 : decide (k ≤ 13) = true := by simp only [decide_eq_true_eq, decide_eq_false_iff_not]; omega
    have f11 : (k != 11) = false := by simp; omega
    have f31 : decide (31 ≤ k) = false := by simp only [decide_eq_true_eq, decide_eq_false_iff_not]; omega
    have hnm : ¬ k ∈ namedL := fun h => by have := hin.1 h; omega
    rw [if_neg hnm]
    obtain ⟨ce, hce⟩ : ∃ b, decide (s = []) = b := ⟨_, rfl⟩
    rw [hce] at e0 ⊢
    have k1 : (k != 1) = true := by simp; omega
    have n1 : (n != 0) = false := by rcases key with q | ⟨_, q⟩; rw [q] at k1; cases k1; exact q
    have g2 : (k == 2) = false := by simp; omega
    rw [decide_eq_false (p := (k = 2)) (by omega), Bool.false_and, Bool.or_false]
    clear hin hk hce hnm key h RR RV
    cases ce
    all_goals
      go_enter Tryd.func36, Tryd.ntmps36
      go_wp2_with fail
      go_quiet ((go_at_call 67; with_reducible exact quiet_callw (KD.out _)))
      go_wp2_with fail
      go_ret
      exact ⟨rfl, below_drewN BX.out _⟩
  · have f7 : decide (7 ≤ k) = true := by simp only [decide_eq_true_eq, decide_eq_false_iff_not]; omega
    have f13 : decide (k ≤ 13) = false := by simp only [decide_eq_true_eq, decide_eq_false_iff_not]; omega
    have f11 : (k != 11) = true := by simp; omega
    have f31 : decide (31 ≤ k) = false := by simp only [decide_eq_true_eq, decide_eq_false_iff_not]; omega
    have hnm : ¬ k ∈ namedL := fun h => by have := hin.1 h; omega
    rw [if_neg hnm]
    obtain ⟨ce, hce⟩ : ∃ b, decide (s = []) = b := ⟨_, rfl⟩
    rw [hce] at e0 ⊢
    have k1 : (k != 1) = true := by simp; omega
    have n1 : (n != 0) = false := by rcases key with q | ⟨_, q⟩; rw [q] at k1; cases k1; exact q
    have g2 : (k == 2) = false := by simp; omega
    rw [decide_eq_false (p := (k = 2)) (by omega), Bool.false_and, Bool.or_false]
    clear hin hk hce hnm key h RR RV
    cases ce
    all_goals
      go_enter Tryd.func36, Tryd.ntmps36
      go_wp2_with fail
      go_quiet ((go_at_call 67; with_reducible exact quiet_callw (KD.out _)))
      go_wp2_with fail
      go_ret
      exact ⟨rfl, below_drewN BX.out _⟩
  · have f7 : decide (7 ≤ k) = true := by simp only [decide_eq_true_eq, decide_eq_false_iff_not]; omega
    have f13 : decide (k ≤ 13) = false := by simp only [decide_eq_true_eq, decide_eq_false_iff_not]; omega
    have f11 : (k != 11) = true := by simp; omega
    have f31 : decide (31 ≤ k) = true := by simp only [decide_eq_true_eq, decide_eq_false_iff_not]; omega
    have hnm : k ∈ namedL := hin.2 (by omega)
    have k1 : (k != 1) = true := by simp; omega
    have n1 : (n != 0) = false := by rcases key with q | ⟨_, q⟩; rw [q] at k1; cases k1; exact q
    rw [if_pos hnm]
    unfold plainN
    obtain ⟨rb, hrb⟩ : ∃ b, rightN s = b := ⟨_, rfl⟩
    obtain ⟨vb, hvb⟩ : ∃ b, decide (s ∈ wordsL) = b := ⟨_, rfl⟩
    rw [hrb] at RR ⊢
    rw [hvb] at RV ⊢
    clear hrb hvb hin e0 hk a7 hnm key h
    cases rb
    · rw [Bool.false_and]
      go_enter Tryd.func36, Tryd.ntmps36
      go_wp2_with fail
      go_quiet ((go_at_call 67; with_reducible exact quiet_callw (KD.out _)))
      go_wp2_with (first
          | (go_at_call 68; refine (RR.out _).mono ?_; rintro e w3 ⟨rfl, nq, rfl⟩)
          | (go_at_call 69; refine (RV.out _).mono ?_; rintro e w4 ⟨rfl, b4⟩; have B4 := Lib.hid b4; clear b4))
      go_ret
      exact ⟨rfl, by first | exact (below_drewN BX.out _).trans (B4.out.mono (by have := BX.out.size; exact this)) | exact below_drewN BX.out _⟩
    · cases vb
      all_goals
        go_enter Tryd.func36, Tryd.ntmps36
        go_wp2_with fail
        go_quiet ((go_at_call 67; with_reducible exact quiet_callw (KD.out _)))
        go_wp2_with (first
          | (go_at_call 68; refine (RR.out _).mono ?_; rintro e w3 ⟨rfl, nq, rfl⟩)
          | (go_at_call 69; refine (RV.out _).mono ?_; rintro e w4 ⟨rfl, b4⟩; have B4 := Lib.hid b4; clear b4))
        go_ret
        exact ⟨rfl, by first | exact (below_drewN BX.out _).trans (B4.out.mono (by have := BX.out.size; exact this)) | exact below_drewN BX.out _⟩
end Go.Proofs.YtlenenfgedgmhaaDoor
namespace Go.Proofs.YtlenenfgedgmhaaDoor
set_option linter.unusedSimpArgs false
set_option linter.unusedVariables false
open Go.RowKit

set_option maxRecDepth 100000 in
set_option maxHeartbeats 4000000 in
theorem r_tight (k : Int) (W : World) : Calls Tryd.prog 63 #[.int .i64 k] W fun e w' => e = .returned (.int .i64 (levelN k : Int)) ∧ w' = W := by
  have hc := level_cases k
  by_cases hr : (8 ≤ k ∧ k ≤ 13) ∨ (20 ≤ k ∧ k ≤ 29)
  · have : k = 8 ∨ k = 9 ∨ k = 10 ∨ k = 11 ∨ k = 12 ∨ k = 13 ∨ k = 20 ∨ k = 21 ∨ k = 22 ∨ k = 23 ∨ k = 24 ∨ k = 25 ∨ k = 26 ∨ k = 27 ∨ k = 28 ∨ k = 29 := by omega
    clear hc hr
    rcases this with rfl | rfl | rfl | rfl | rfl | rfl | rfl | rfl | rfl | rfl | rfl | rfl | rfl | rfl | rfl | rfl
    all_goals
      go_enter Tryd.func63, Tryd.ntmps63
      go_wp2_with fail
      go_ret
      exact ⟨rfl, rfl⟩
  · have hv : levelN k = 8 := by omega
    rw [hv]
    have q28 : (k == 28) = false := by simp; omega
    have q27 : (k == 27) = false := by simp; omega
    have q29 : (k == 29) = false := by simp; omega
    have q20 : (k == 20) = false := by simp; omega
    have q21 : (k == 21) = false := by simp; omega
    have q22 : (k == 22) = false := by simp; omega
    have key : ∀ a b c d : Bool, decide (23 ≤ k) = a → decide (k ≤ 26) = b → decide (8 ≤ k) = c → decide (k ≤ 13) = d → (a && b) = false → (c && d) = false → Calls Tryd.prog 63 #[.int .i64 k] W fun e w' => e = .returned (.int .i64 ((8 : Nat) : Int)) ∧ w' = W := by
      intro a b c d ha hb hcc hd h1 h2
      clear hc hr hv
      cases a <;> cases b <;> cases c <;> cases d <;> first | (exfalso; revert h1; decide) | (exfalso; revert h2; decide) | skip
      all_goals
        clear h1 h2
        go_enter Tryd.func63, Tryd.ntmps63
        go_wp2_with fail
        go_ret
        exact ⟨rfl, rfl⟩
    refine key _ _ _ _ rfl rfl rfl rfl ?_ ?_
    · rw [Bool.and_eq_false_iff]
      simp only [decide_eq_false_iff_not]
      omega
    · rw [Bool.and_eq_false_iff]
      simp only [decide_eq_false_iff_not]
      omega

/-- what stands for a Kind -/
def sigL : List (List Nat) := [[], [], [], [116, 114, 117, 101], [102, 97, 108, 115, 101], [115, 101, 108, 102], [110, 111, 110, 101], [], [46], [35], [45, 62], [94], [63], [33, 33], [115, 105, 122, 101], [102, 105, 114, 115, 116], [116, 101, 120, 116], [99, 111, 110, 99, 101, 112, 116], [105, 100], [105, 110, 116], [43], [45], [42], [61, 61], [33, 61], [60], [60, 61], [97, 110, 100], [111, 114], [110, 111, 116], [105, 102], [97, 110, 121], [101, 118, 101, 114, 121], [111, 110, 108, 121], [115, 117, 109]]
theorem sig_signs : ∀ x ∈ signsL, sigL[x.2.1]? = some x.1 := by decide
theorem sig_ones : ∀ y ∈ onesL, sigL[y.2.1]? = some y.1 := by decide
set_option maxRecDepth 100000 in
set_option maxHeartbeats 4000000 in
theorem r_sign {k : Nat} {m : List Nat} (hk : sigL[k]? = some m) (W : World) : Calls Tryd.prog 89 #[.int .i64 (k : Int)] W fun e w' => e = .returned (.string (txt m)) ∧ Below W.heap.size W w' := by
  have hlt : k < 35 := (List.getElem?_eq_some_iff.1 hk).1
  have k35 : (k : Int) < 35 := by omega
  have k0 : (0 : Int) ≤ (k : Int) := Int.natCast_nonneg _
  have hv : ∀ h : k < (sigL.map fun m => Value.string (txt m)).length, (sigL.map fun m => Value.string (txt m))[k]'h = .string (txt m) := by
    intro h
    rw [List.getElem_map, (List.getElem?_eq_some_iff.1 hk).2]
  have HV := Lib.hid hv
  clear hv hk
  go_enter Tryd.func89, Tryd.ntmps89
  go_wp2_with fail
  go_ret
  refine ⟨?_, (Below.refl _ _).alloc (Nat.le_refl _) _⟩
  exact congrArg Ending.returned (HV.out (by show k < 35; omega))
end Go.Proofs.YtlenenfgedgmhaaDoor
