/- expr.plain, expr.may: may a node be, by itself? -/
import Derived.Test.YtlenenfgedgmhaaDoorRg0
import Derived.Test.YtlenenfgedgmhaaDoorJoin
namespace Go.Proofs.YtlenenfgedgmhaaDoor
set_option linter.unusedSimpArgs false
set_option linter.unusedVariables false
open Go.RowKit

theorem right_len {s : List Nat} (h : rightN s = true) : s.length ≤ 32 := by
  unfold rightN at h
  split at h
  · cases h
  · rw [Bool.and_eq_true, Bool.and_eq_true] at h
    exact of_decide_eq_true h.1.1
theorem join_name (s : List Nat) : (joinN [⟨3, s, 0, 0⟩]).2 = if rightN s && !decide (s ∈ wordsL) then 0 else 2 := by
  have hm : ([⟨3, s, 0, 0⟩] : List Tok).all mayN = (rightN s && !decide (s ∈ wordsL)) := by simp [mayN]
  unfold joinN
  rw [hm]
  by_cases h : (rightN s && !decide (s ∈ wordsL)) = true
  · rw [if_pos h, if_pos h]
    have hl : (joinAll [] true [(⟨3, s, 0, 0⟩ : Tok)]).length ≤ 4096 := by
      rw [Bool.and_eq_true] at h
      have := right_len h.1
      simp [joinAll, shownN]
      omega
    rw [if_neg (by omega)]
  · rw [if_neg h, if_neg h]
set_option maxRecDepth 100000 in
set_option maxHeartbeats 4000000 in
theorem p_plain (s : List Nat) (hb : Bytes s) (hl : s.length ≤ 140737488355328) (w : World) (hm : Marks w) (hp : Pow w) : Calls Tryd.prog 66 #[.string (txt s)] w fun e w' => e = .returned (.bool (plainN s)) ∧ Below w.heap.size w w' := by
  have hok : Tok.ok ⟨3, s, 0, 0⟩ := ⟨hb, by show s.length ≤ maxLen; unfold maxLen; omega, by show (Lit.int .i64 3).wf = true; decide, by show (Lit.int .i64 0).wf = true; decide, by show (Lit.int .i64 0).wf = true; decide⟩
  have B0 : Below w.heap.size w (w.alloc (.cells #[.int .i64 3, .string (txt s), .int .i64 0, .int .i64 0] 82)) := (Below.refl _ _).alloc (Nat.le_refl _) _
  have hw1 : SlR (w.alloc (.cells #[.int .i64 3, .string (txt s), .int .i64 0, .int .i64 0] 82)) (w.alloc (.cells #[.int .i64 3, .string (txt s), .int .i64 0, .int .i64 0] 82)).heap.size 4 Tok.Is (.slice (some ⟨w.heap.size, 0, none⟩) 1 1) [⟨3, s, 0, 0⟩] := (SlR.new1 (x := [.int .i64 3, .string (txt s), .int .i64 0, .int .i64 0]) rfl rfl ⟨rfl, hok⟩).more (by simp)
  have JN := Lib.hid (join_any _ _ hw1 (Below.refl _ _) (fun t ht => by simp at ht; subst ht; simp only; omega) (hm.below B0) (hp.below B0))
  rw [join_name] at JN
  have RT : Hid (∀ W, Calls Tryd.prog 91 #[.string (txt s)] W fun e w' => e = .returned (.bool (rightN s)) ∧ Quiet W w') := Lib.hid (fun W => by have h0 := right_any (txt s) (by rw [txt_size]; unfold maxLen; omega) W; rw [bs_txt hb] at h0; exact h0)
  have HB0 := Lib.hid B0
  unfold plainN
  obtain ⟨r, hr⟩ : ∃ r, rightN s = r := ⟨_, rfl⟩
  obtain ⟨d, hd⟩ : ∃ d, decide (s ∈ wordsL) = d := ⟨_, rfl⟩
  rw [hr, hd] at JN ⊢
  rw [hr] at RT
  clear hm hp hw1 B0 hok hr hd hb hl
  cases r <;> cases d
  · have JX : Hid (Calls Tryd.prog 90 #[.slice (some ⟨w.heap.size, 0, none⟩) 1 1] (w.alloc (.cells #[.int .i64 3, .string (txt s), .int .i64 0, .int .i64 0] 82)) fun e w' => (∃ v, e = .returned (.tuple #[.string v, .int .i64 2])) ∧ Below (w.alloc (.cells #[.int .i64 3, .string (txt s), .int .i64 0, .int .i64 0] 82)).heap.size (w.alloc (.cells #[.int .i64 3, .string (txt s), .int .i64 0, .int .i64 0] 82)) w') := Lib.hid (JN.out.mono fun e w' ⟨he, hb⟩ => ⟨⟨_, he⟩, hb⟩)
    clear JN
    go_enter Tryd.func66, Tryd.ntmps66
    go_wp2_with (first
      | (go_at_call 90; refine JX.out.mono ?_; rintro e w1 ⟨⟨v, rfl⟩, b1⟩; have B1 := Lib.hid b1; clear b1)
      | (go_at_call 91; refine (RT.out _).mono ?_; rintro e w2 ⟨rfl, q2⟩; have Q2 := Lib.hid q2; clear q2))
    go_ret
    exact ⟨rfl, (HB0.out.trans (B1.out.mono HB0.out.size)).trans (Q2.out.below _)⟩
  · have JX : Hid (Calls Tryd.prog 90 #[.slice (some ⟨w.heap.size, 0, none⟩) 1 1] (w.alloc (.cells #[.int .i64 3, .string (txt s), .int .i64 0, .int .i64 0] 82)) fun e w' => (∃ v, e = .returned (.tuple #[.string v, .int .i64 2])) ∧ Below (w.alloc (.cells #[.int .i64 3, .string (txt s), .int .i64 0, .int .i64 0] 82)).heap.size (w.alloc (.cells #[.int .i64 3, .string (txt s), .int .i64 0, .int .i64 0] 82)) w') := Lib.hid (JN.out.mono fun e w' ⟨he, hb⟩ => ⟨⟨_, he⟩, hb⟩)
    clear JN
    go_enter Tryd.func66, Tryd.ntmps66
    go_wp2_with (first
      | (go_at_call 90; refine JX.out.mono ?_; rintro e w1 ⟨⟨v, rfl⟩, b1⟩; have B1 := Lib.hid b1; clear b1)
      | (go_at_call 91; refine (RT.out _).mono ?_; rintro e w2 ⟨rfl, q2⟩; have Q2 := Lib.hid q2; clear q2))
    go_ret
    exact ⟨rfl, (HB0.out.trans (B1.out.mono HB0.out.size)).trans (Q2.out.below _)⟩
  · have JX : Hid (Calls Tryd.prog 90 #[.slice (some ⟨w.heap.size, 0, none⟩) 1 1] (w.alloc (.cells #[.int .i64 3, .string (txt s), .int .i64 0, .int .i64 0] 82)) fun e w' => (∃ v, e = .returned (.tuple #[.string v, .int .i64 0])) ∧ Below (w.alloc (.cells #[.int .i64 3, .string (txt s), .int .i64 0, .int .i64 0] 82)).heap.size (w.alloc (.cells #[.int .i64 3, .string (txt s), .int .i64 0, .int .i64 0] 82)) w') := Lib.hid (JN.out.mono fun e w' ⟨he, hb⟩ => ⟨⟨_, he⟩, hb⟩)
    clear JN
    go_enter Tryd.func66, Tryd.ntmps66
    go_wp2_with (first
      | (go_at_call 90; refine JX.out.mono ?_; rintro e w1 ⟨⟨v, rfl⟩, b1⟩; have B1 := Lib.hid b1; clear b1)
      | (go_at_call 91; refine (RT.out _).mono ?_; rintro e w2 ⟨rfl, q2⟩; have Q2 := Lib.hid q2; clear q2))
    go_ret
    exact ⟨rfl, (HB0.out.trans (B1.out.mono HB0.out.size)).trans (Q2.out.below _)⟩
  · have JX : Hid (Calls Tryd.prog 90 #[.slice (some ⟨w.heap.size, 0, none⟩) 1 1] (w.alloc (.cells #[.int .i64 3, .string (txt s), .int .i64 0, .int .i64 0] 82)) fun e w' => (∃ v, e = .returned (.tuple #[.string v, .int .i64 2])) ∧ Below (w.alloc (.cells #[.int .i64 3, .string (txt s), .int .i64 0, .int .i64 0] 82)).heap.size (w.alloc (.cells #[.int .i64 3, .string (txt s), .int .i64 0, .int .i64 0] 82)) w') := Lib.hid (JN.out.mono fun e w' ⟨he, hb⟩ => ⟨⟨_, he⟩, hb⟩)
    clear JN
    go_enter Tryd.func66, Tryd.ntmps66
    go_wp2_with (first
      | (go_at_call 90; refine JX.out.mono ?_; rintro e w1 ⟨⟨v, rfl⟩, b1⟩; have B1 := Lib.hid b1; clear b1)
      | (go_at_call 91; refine (RT.out _).mono ?_; rintro e w2 ⟨rfl, q2⟩; have Q2 := Lib.hid q2; clear q2))
    go_ret
    exact ⟨rfl, (HB0.out.trans (B1.out.mono HB0.out.size)).trans (Q2.out.below _)⟩
/-- the node's own test, part by part -/
theorem mayE_def (k : Int) (s : List Nat) (n : Int) (ks : List Int) : mayE ⟨k, s, n, ks⟩ = (decide (kidsN k = (ks.length : Int)) && !(decide (n ≠ 0) && decide (k ≠ 1)) && !decide (n = -9223372036854775808) && (if k ∈ namedL then plainN s else decide (s = []) || (decide (k = 2) && decide (s.length ≤ 4096)))) := rfl
set_option maxRecDepth 100000 in
set_option maxHeartbeats 8000000 in
theorem p_may (k : Int) (s : List Nat) (n : Int) (ks : List Int) (ka : Option Addr) (kn kc : Nat) (hkn : kn = ks.length) (hk63 : kn ≤ 9223372036854775807) (hb : Bytes s) (hl : s.length ≤ 140737488355328) (w : World) (hm : Marks w) (hp : Pow w) :
    Calls Tryd.prog 35 #[.agg #[.int .i64 k, .string (txt s), .int .i64 n, .slice ka kn kc]] w fun e w' => e = .returned (.bool (mayE ⟨k, s, n, ks⟩)) ∧ Below w.heap.size w w' := by
  rw [mayE_def, ← hkn]
  have BX : Hid (Below w.heap.size w (w.alloc (.cells #[.int .i64 k, .string (txt s), .int .i64 n, .slice ka kn kc] 46))) := Lib.hid ((Below.refl _ _).alloc (Nat.le_refl _) _)
  have PN : Hid (∀ W, Below w.heap.size w W → Calls Tryd.prog 66 #[.string (txt s)] W fun e w' => e = .returned (.bool (plainN s)) ∧ Below W.heap.size W w') := Lib.hid (fun W hW => p_plain s hb hl W (hm.below hW) (hp.below hW))
  have KD : Hid (∀ W, Calls Tryd.prog 64 #[.int .i64 k] W fun e w' => e = .returned (.int .i64 (kidsN k)) ∧ w' = W) := Lib.hid (fun W => p_kids k W)
  obtain ⟨kd, hkd⟩ : ∃ z, kidsN k = z := ⟨_, rfl⟩
  rw [hkd] at KD ⊢
  obtain ⟨nm, hnm⟩ : ∃ b, decide (k ∈ namedL) = b := ⟨_, rfl⟩
  have NM := Lib.hid hnm
  have HS := Lib.hid (And.intro hb hl)
  clear hkd hm hp hkn hb hl
  by_cases h1 : kd = (kn : Int)
  rotate_left
  · have a1 : (kd != (kn : Int)) = true := by simpa using h1
    rw [decide_eq_false h1]
    simp only [Bool.false_and]
    clear h1 hnm
    go_enter Tryd.func35, Tryd.ntmps35
    go_wp2_with fail
    go_quiet ((go_at_call 64; with_reducible exact quiet_callw (KD.out _)))
    go_wp2_with fail
    go_ret
    exact ⟨rfl, below_drewN BX.out _⟩
  subst h1
  have a1 : ((kn : Int) != (kn : Int)) = false := by simp
  rw [decide_eq_true rfl]
  by_cases h2 : n = 0
  · subst h2
    have hmin : decide ((0 : Int) = -9223372036854775808) = false := by decide
    rw [hmin]
    simp only [ne_eq, not_true_eq_false, decide_false, Bool.false_and, Bool.not_false, Bool.true_and]
    clear hmin a1
    cases nm with
    | true =>
      have hin := of_decide_eq_true hnm
      rw [if_pos hin]
      clear hin hnm
      go_enter Tryd.func35, Tryd.ntmps35
      go_wp2_with fail
      go_quiet ((go_at_call 64; with_reducible exact quiet_callw (KD.out _)))
      go_wp2_with (first
            | (go_at_call 65; refine (p_named _ _).mono ?_; rw [NM.out]; rintro e w3 ⟨rfl, rfl⟩)
            | (go_at_call 66; refine (PN.out _ (by exact BX.out.trans ((below_drewN (Below.refl _ _) _)))).mono ?_; rintro e w4 ⟨rfl, b4⟩; have B4 := Lib.hid b4; clear b4))
      go_ret
      exact ⟨rfl, (below_drewN BX.out _).trans (B4.out.mono (by have := BX.out.size; exact this))⟩
    | false =>
      have hin := of_decide_eq_false hnm
      rw [if_neg hin]
      clear hin hnm
      by_cases h5 : s = []
      · subst h5
        have a5 : ((txt []).toList == []) = true := by rw [nil_facts]; rfl
        simp only [decide_true, Bool.true_or]
        go_enter Tryd.func35, Tryd.ntmps35
        go_wp2_with fail
        go_quiet ((go_at_call 64; with_reducible exact quiet_callw (KD.out _)))
        go_wp2_with (first
              | (go_at_call 65; refine (p_named _ _).mono ?_; rw [NM.out]; rintro e w3 ⟨rfl, rfl⟩)
              | (go_at_call 66; refine (PN.out _ (by exact BX.out.trans ((below_drewN (Below.refl _ _) _)))).mono ?_; rintro e w4 ⟨rfl, b4⟩; have B4 := Lib.hid b4; clear b4))
        go_ret
        exact ⟨rfl, below_drewN BX.out _⟩
      · have a5 : ((txt s).toList == []) = false := by rw [beq_eq_false_iff_ne]; exact txt_empty HS.out.1 h5
        rw [decide_eq_false h5, Bool.false_or]
        clear h5
        by_cases h6 : k = 2
        · subst h6
          simp only [decide_true, Bool.true_and]
          obtain ⟨sl, hsl⟩ : ∃ z, s.length = z := ⟨_, rfl⟩
          have a7 : ((txt s).size : Int) = (sl : Int) := by rw [txt_size, hsl]
          rw [hsl]
          clear hsl
          by_cases h7 : sl ≤ 4096
          · have a8 : decide (sl ≤ 4096) = true := by simpa using h7
            have a9 : decide ((sl : Int) ≤ 4096) = true := by simp; omega
            rw [a8]
            clear h7
            go_enter Tryd.func35, Tryd.ntmps35
            go_wp2_with fail
            go_quiet ((go_at_call 64; with_reducible exact quiet_callw (KD.out _)))
            go_wp2_with (first
                  | (go_at_call 65; refine (p_named _ _).mono ?_; rw [NM.out]; rintro e w3 ⟨rfl, rfl⟩)
                  | (go_at_call 66; refine (PN.out _ (by exact BX.out.trans ((below_drewN (Below.refl _ _) _)))).mono ?_; rintro e w4 ⟨rfl, b4⟩; have B4 := Lib.hid b4; clear b4))
            go_ret
            exact ⟨rfl, below_drewN BX.out _⟩
          · have a8 : decide (sl ≤ 4096) = false := by simpa using h7
            have a9 : decide ((sl : Int) ≤ 4096) = false := by simp; omega
            rw [a8]
            clear h7
            go_enter Tryd.func35, Tryd.ntmps35
            go_wp2_with fail
            go_quiet ((go_at_call 64; with_reducible exact quiet_callw (KD.out _)))
            go_wp2_with (first
                  | (go_at_call 65; refine (p_named _ _).mono ?_; rw [NM.out]; rintro e w3 ⟨rfl, rfl⟩)
                  | (go_at_call 66; refine (PN.out _ (by exact BX.out.trans ((below_drewN (Below.refl _ _) _)))).mono ?_; rintro e w4 ⟨rfl, b4⟩; have B4 := Lib.hid b4; clear b4))
            go_ret
            exact ⟨rfl, below_drewN BX.out _⟩
        · have a6 : (k == 2) = false := by simpa using h6
          rw [decide_eq_false h6, Bool.false_and]
          clear h6
          go_enter Tryd.func35, Tryd.ntmps35
          go_wp2_with fail
          go_quiet ((go_at_call 64; with_reducible exact quiet_callw (KD.out _)))
          go_wp2_with (first
                | (go_at_call 65; refine (p_named _ _).mono ?_; rw [NM.out]; rintro e w3 ⟨rfl, rfl⟩)
                | (go_at_call 66; refine (PN.out _ (by exact BX.out.trans ((below_drewN (Below.refl _ _) _)))).mono ?_; rintro e w4 ⟨rfl, b4⟩; have B4 := Lib.hid b4; clear b4))
          go_ret
          exact ⟨rfl, below_drewN BX.out _⟩
  · have a2 : (n != 0) = true := by simpa using h2
    by_cases h3 : k = 1
    · subst h3
      by_cases h4 : n = -9223372036854775808
      · subst h4
        simp only [decide_true, Bool.not_true, Bool.and_false, Bool.false_and]
        clear hnm h2
        go_enter Tryd.func35, Tryd.ntmps35
        go_wp2_with fail
        go_quiet ((go_at_call 64; with_reducible exact quiet_callw (KD.out _)))
        go_wp2_with fail
        go_ret
        exact ⟨rfl, below_drewN BX.out _⟩
      · have a4 : (n == -9223372036854775808) = false := by simpa using h4
        rw [decide_eq_false h4]
        simp only [ne_eq, not_true_eq_false, decide_false, Bool.and_false, Bool.not_false, Bool.true_and]
        clear h2 h4
        cases nm with
        | true =>
          have hin := of_decide_eq_true hnm
          rw [if_pos hin]
          clear hin hnm
          go_enter Tryd.func35, Tryd.ntmps35
          go_wp2_with fail
          go_quiet ((go_at_call 64; with_reducible exact quiet_callw (KD.out _)))
          go_wp2_with (first
                | (go_at_call 65; refine (p_named _ _).mono ?_; rw [NM.out]; rintro e w3 ⟨rfl, rfl⟩)
                | (go_at_call 66; refine (PN.out _ (by exact BX.out.trans ((below_drewN (Below.refl _ _) _)))).mono ?_; rintro e w4 ⟨rfl, b4⟩; have B4 := Lib.hid b4; clear b4))
          go_ret
          exact ⟨rfl, (below_drewN BX.out _).trans (B4.out.mono (by have := BX.out.size; exact this))⟩
        | false =>
          have hin := of_decide_eq_false hnm
          rw [if_neg hin]
          clear hin hnm
          by_cases h5 : s = []
          · subst h5
            have a5 : ((txt []).toList == []) = true := by rw [nil_facts]; rfl
            simp only [decide_true, Bool.true_or]
            go_enter Tryd.func35, Tryd.ntmps35
            go_wp2_with fail
            go_quiet ((go_at_call 64; with_reducible exact quiet_callw (KD.out _)))
            go_wp2_with (first
                  | (go_at_call 65; refine (p_named _ _).mono ?_; rw [NM.out]; rintro e w3 ⟨rfl, rfl⟩)
                  | (go_at_call 66; refine (PN.out _ (by exact BX.out.trans ((below_drewN (Below.refl _ _) _)))).mono ?_; rintro e w4 ⟨rfl, b4⟩; have B4 := Lib.hid b4; clear b4))
            go_ret
            exact ⟨rfl, below_drewN BX.out _⟩
          · have a5 : ((txt s).toList == []) = false := by rw [beq_eq_false_iff_ne]; exact txt_empty HS.out.1 h5
            rw [decide_eq_false h5, Bool.false_or]
            clear h5
            have a6 : decide ((1 : Int) = 2) = false := by decide
            rw [a6, Bool.false_and]
            clear a6
            go_enter Tryd.func35, Tryd.ntmps35
            go_wp2_with fail
            go_quiet ((go_at_call 64; with_reducible exact quiet_callw (KD.out _)))
            go_wp2_with (first
                  | (go_at_call 65; refine (p_named _ _).mono ?_; rw [NM.out]; rintro e w3 ⟨rfl, rfl⟩)
                  | (go_at_call 66; refine (PN.out _ (by exact BX.out.trans ((below_drewN (Below.refl _ _) _)))).mono ?_; rintro e w4 ⟨rfl, b4⟩; have B4 := Lib.hid b4; clear b4))
            go_ret
            exact ⟨rfl, below_drewN BX.out _⟩
    · have a3 : (k != 1) = true := by simpa using h3
      simp only [ne_eq, h2, h3, not_false_eq_true, decide_true, Bool.and_self, Bool.not_true, Bool.and_false, Bool.false_and]
      clear hnm h2 h3
      go_enter Tryd.func35, Tryd.ntmps35
      go_wp2_with fail
      go_quiet ((go_at_call 64; with_reducible exact quiet_callw (KD.out _)))
      go_wp2_with fail
      go_ret
      exact ⟨rfl, below_drewN BX.out _⟩
end Go.Proofs.YtlenenfgedgmhaaDoor
