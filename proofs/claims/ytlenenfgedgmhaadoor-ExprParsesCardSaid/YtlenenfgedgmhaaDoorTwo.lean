/- The scanner's reading of digits, of marks and of a run of a name's bytes. -/
import Derived.Test.YtlenenfgedgmhaaDoorOne
import Derived.Laws.Rows
namespace Go.Proofs.YtlenenfgedgmhaaDoor
set_option linter.unusedSimpArgs false
set_option linter.unusedVariables false
open Go.RowKit

theorem furtherN_fig {c : Nat} (h : 48 ≤ c ∧ c ≤ 57) : furtherN c = true := by simp [furtherN]; omega

set_option maxHeartbeats 4000000 in
theorem lex_number (s : ByteArray) (k0 : Nat) (hk0 : k0 ≤ s.size) (hs : s.size ≤ 4096) (R : Nat × Nat × Bool) (hR : numScan ((bs s).drop k0) 0 0 = R) (w : World) : Calls Tryd.prog 41 #[.string s, .int .i64 (k0 : Int)] w fun e w' => e = .returned (.tuple #[.int .i64 (R.1 : Int), .int .i64 ((k0 + R.2.1 : Nat) : Int), .bool R.2.2]) ∧ Quiet w w' := by
  obtain ⟨n, hn⟩ : ∃ n, s.size = n := ⟨_, rfl⟩
  have Hn := Lib.hid hn
  rw [hn] at hs hk0
  have hn' : (s.size : Int) = (n : Int) := by rw [hn]
  clear hn
  have HR := Lib.hid hR
  clear hR
  go_enter Tryd.func41, Tryd.ntmps41
  go_wp2_with fail
  go_loopw [7, 8] (fun nv i wr => ∃ (j a : Nat), k0 + j ≤ n ∧ i = .int .i64 ((k0 + j : Nat) : Int) ∧ nv = .int .i64 (a : Int) ∧ a ≤ 9223372036854775807 ∧ Hid (numScan ((bs s).drop (k0 + j)) j a = R) ∧ Quiet w wr) (fun _ i _ => n - (intOf i).toNat)
  case atStart => exact ⟨0, 0, by omega, by go_num, rfl, by omega, HR.out, Quiet.refl _⟩
  case round =>
    obtain ⟨j, a, hj, rfl, rfl, ha, hu, hq⟩ := hrel
    obtain ⟨k, hk⟩ : ∃ k, k0 + j = k := ⟨_, rfl⟩
    rw [hk] at hu hj ⊢
    have b1 : (0 : Int) ≤ (k : Int) := Int.natCast_nonneg _
    by_cases hlt : k < n
    · obtain ⟨c, hc, c256⟩ := get_bs (s := s) (k := k) (by rw [Hn.out]; exact hlt)
      have i1 := fun W => index_txt W 9 Tryd.underlying9 hc .i64 _ rfl
      have hdrop := drop_bs hc
      by_cases hd : 48 ≤ c ∧ c ≤ 57
      · have D := Lib.hid (fun W => lex_digit c true (by simp [figN]; omega) W)
        have hcase : (0 < j ∧ a = 0) ∨ (j = 0 ∧ (9223372036854775807 - (c - 48)) / 10 < a) ∨ (0 < j ∧ a ≠ 0 ∧ (9223372036854775807 - (c - 48)) / 10 < a) ∨ (¬ ((0 < j ∧ a = 0) ∨ (9223372036854775807 - (c - 48)) / 10 < a) ∧ j = 0) ∨ (¬ ((0 < j ∧ a = 0) ∨ (9223372036854775807 - (c - 48)) / 10 < a) ∧ 0 < j) := by omega
        have hbadv : ((0 < j ∧ a = 0) ∨ (9223372036854775807 - (c - 48)) / 10 < a) → R = (0, j, false) := fun h => by
          have := hu.out
          rw [hdrop, numScan, if_pos hd, if_pos h] at this
          exact this.symm
        have hgoodv : ¬ ((0 < j ∧ a = 0) ∨ (9223372036854775807 - (c - 48)) / 10 < a) → numScan ((bs s).drop (k + 1)) (j + 1) (10 * a + (c - 48)) = R := fun h => by
          have := hu.out
          rw [hdrop, numScan, if_pos hd, if_neg h] at this
          exact this
        have HBV := Lib.hid hbadv
        have HGV := Lib.hid hgoodv
        obtain ⟨hd1, hd2⟩ := hd
        clear hu hc hdrop hbadv hgoodv
        rcases hcase with ⟨x1, x2⟩ | ⟨x1, x2⟩ | ⟨x1, x3, x2⟩ | ⟨x2, x1⟩ | ⟨x2, x1⟩
        · have HV := Lib.hid (HBV.out (Or.inl ⟨x1, x2⟩))
          have f1 : decide ((k0 : Int) < (k : Int)) = true := by simp; omega
          subst x2
          clear HBV HGV
          go_wp2_with (go_at_call 40; refine (D.out _).mono ?_; rintro e w1 ⟨rfl, q1⟩)
          (try simp only [Exit.inBlock, Exit.then, Exit.noGoto_ret])
          go_ret3
          exact ⟨by rw [HV.out, ← hk]; rfl, hq.trans q1⟩
        · have HV := Lib.hid (HBV.out (Or.inr x2))
          have f1 : decide ((k0 : Int) < (k : Int)) = false := by simp; omega
          have f3 : decide ((9223372036854775807 - ((c : Int) - 48)) / 10 < (a : Int)) = true := by simp; omega
          clear x2
          clear HBV HGV
          go_wp2_with (go_at_call 40; refine (D.out _).mono ?_; rintro e w1 ⟨rfl, q1⟩)
          (try simp only [Exit.inBlock, Exit.then, Exit.noGoto_ret])
          go_ret3
          exact ⟨by rw [HV.out, ← hk]; rfl, hq.trans q1⟩
        · have HV := Lib.hid (HBV.out (Or.inr x2))
          have f1 : decide ((k0 : Int) < (k : Int)) = true := by simp; omega
          have f2 : ((a : Int) == 0) = false := by simp; omega
          have f3 : decide ((9223372036854775807 - ((c : Int) - 48)) / 10 < (a : Int)) = true := by simp; omega
          clear x2
          clear HBV HGV
          go_wp2_with (go_at_call 40; refine (D.out _).mono ?_; rintro e w1 ⟨rfl, q1⟩)
          (try simp only [Exit.inBlock, Exit.then, Exit.noGoto_ret])
          go_ret3
          exact ⟨by rw [HV.out, ← hk]; rfl, hq.trans q1⟩
        · have HV := Lib.hid (HGV.out x2)
          have f1 : decide ((k0 : Int) < (k : Int)) = false := by simp; omega
          have f3 : decide ((9223372036854775807 - ((c : Int) - 48)) / 10 < (a : Int)) = false := by simp; omega
          have f4 : 10 * a + (c - 48) ≤ 9223372036854775807 := by omega
          have f5 : 10 * (a : Int) + ((c : Int) - 48) ≤ 9223372036854775807 := by omega
          clear x2
          clear HBV HGV
          go_wp2_with (go_at_call 40; refine (D.out _).mono ?_; rintro e w1 ⟨rfl, q1⟩)
          go_roundw
          case rel => exact ⟨j + 1, 10 * a + (c - 48), by omega, by go_num, by go_num, f4, by rw [show k0 + (j + 1) = k + 1 by omega]; exact HV.out, hq.trans q1⟩
          case measure => simp [intOf]; omega
        · have HV := Lib.hid (HGV.out x2)
          have f1 : decide ((k0 : Int) < (k : Int)) = true := by simp; omega
          have f2 : ((a : Int) == 0) = false := by simp; omega
          have f3 : decide ((9223372036854775807 - ((c : Int) - 48)) / 10 < (a : Int)) = false := by simp; omega
          have f4 : 10 * a + (c - 48) ≤ 9223372036854775807 := by omega
          have f5 : 10 * (a : Int) + ((c : Int) - 48) ≤ 9223372036854775807 := by omega
          clear x2
          clear HBV HGV
          go_wp2_with (go_at_call 40; refine (D.out _).mono ?_; rintro e w1 ⟨rfl, q1⟩)
          go_roundw
          case rel => exact ⟨j + 1, 10 * a + (c - 48), by omega, by go_num, by go_num, f4, by rw [show k0 + (j + 1) = k + 1 by omega]; exact HV.out, hq.trans q1⟩
          case measure => simp [intOf]; omega
      · have hd0 : figN c = false := by simp [figN]; omega
        have D := Lib.hid (fun W => lex_digit c false hd0 W)
        have e0 : ((k : Int) == (n : Int)) = false := by simp; omega
        have hv : R = (a, j, !furtherN c) := by
          have := hu.out
          rw [hdrop, numScan, if_neg hd] at this
          exact this.symm
        have HV := Lib.hid hv
        obtain ⟨b, hb⟩ : ∃ b, furtherN c = b := ⟨_, rfl⟩
        have F := Lib.hid (fun W => lex_further c b hb W)
        rw [hb] at HV
        clear hu hc hdrop hd hd0 hv hb
        go_wp2_with (first | (go_at_call 40; refine (D.out _).mono ?_; rintro e w1 ⟨rfl, q1⟩) | (go_at_call 38; refine (F.out _).mono ?_; rintro e w2 ⟨rfl, q2⟩))
        go_ret3
        exact ⟨by rw [HV.out, ← hk]; rfl, (hq.trans q1).trans q2⟩
    · have hkn : k = n := by omega
      have e0 : ((k : Int) == (n : Int)) = true := by simp; omega
      have hdec : decide (k < n) = false := by simp; omega
      have hdec2 : decide ((k : Int) < (n : Int)) = false := by simp; omega
      have hv : R = (a, j, true) := by
        have := hu.out
        rw [List.drop_of_length_le (by rw [bs_len, Hn.out]; omega)] at this
        exact this.symm
      have HV := Lib.hid hv
      clear hu hv hkn
      go_wp2_with fail
      go_ret3
      exact ⟨by rw [HV.out, ← hk]; rfl, hq⟩

theorem prefix_take : ∀ (m r : List Nat), m.isPrefixOf r = decide (m.length ≤ r.length ∧ r.take m.length = m)
  | [], r => by simp
  | a :: m, [] => by simp
  | a :: m, b :: r => by
    rw [List.isPrefixOf, prefix_take m r, Bool.eq_iff_iff]
    simp
    constructor
    · rintro ⟨rfl, h1, h2⟩; exact ⟨h1, rfl, h2⟩
    · rintro ⟨h1, rfl, h2⟩; exact ⟨rfl, h1, h2⟩
theorem lex_prefix (s t : ByteArray) (hs : s.size ≤ maxLen) (ht : t.size ≤ maxLen) (b : Bool) (hb : (bs t).isPrefixOf (bs s) = b) (w : World) : Calls Tryd.prog 71 #[.string s, .string t] w fun e w' => e = .returned (.bool b) ∧ Quiet w w' := by
  have key : ∀ W, Calls Tryd.prog 94 #[.string s, .string t] W fun e w' => e = .returned (.bool b) ∧ Quiet W w' := by
    intro W
    unfold maxLen at hs ht
    rw [prefix_take, bs_len, bs_len] at hb
    obtain ⟨n, hn⟩ : ∃ n, s.size = n := ⟨_, rfl⟩
    obtain ⟨m, hm⟩ : ∃ m, t.size = m := ⟨_, rfl⟩
    have hn' : (s.size : Int) = (n : Int) := by rw [hn]
    have hm' : (t.size : Int) = (m : Int) := by rw [hm]
    rw [hn] at hs hb
    rw [hm] at ht hb
    have Hn := Lib.hid hn
    have Hm := Lib.hid hm
    clear hn hm
    by_cases h1 : m ≤ n
    · have he : bs (s.extract 0 m) = (bs s).take m := by rw [bs_extract]; simp
      by_cases h2 : (bs s).take m = bs t
      · have hbt : b = true := by rw [← hb]; exact decide_eq_true ⟨h1, h2⟩
        have hx : s.extract 0 m = t := bs_inj (he.trans h2)
        subst hbt
        clear hb h2 he
        go_enter Tryd.func94, Tryd.ntmps94
        go_wp2_with fail
        go_ret
        exact ⟨by first | rfl | (rw [show (0 : Int).toNat = 0 from rfl]; simp [hx]) | simp [hx], Quiet.refl _⟩
      · have hbt : b = false := by rw [← hb]; exact decide_eq_false (fun h => h2 h.2)
        have hx : ¬ (s.extract 0 m).toList = t.toList := fun e => h2 (by rw [← he, (toList_inj _ _).1 e])
        have hxb : ((s.extract 0 m).toList == t.toList) = false := by rw [beq_eq_false_iff_ne]; exact hx
        subst hbt
        clear hb h2 he
        go_enter Tryd.func94, Tryd.ntmps94
        go_wp2_with fail
        go_ret
        exact ⟨by first | rfl | simp [hx], Quiet.refl _⟩
    · have hbt : b = false := by rw [← hb]; exact decide_eq_false (fun h => h1 h.1)
      have hdec : decide ((m : Int) ≤ (n : Int)) = false := by simp; omega
      subst hbt
      clear hb
      go_enter Tryd.func94, Tryd.ntmps94
      go_wp2_with fail
      go_ret
      exact ⟨rfl, Quiet.refl _⟩
  have K := Lib.hid key
  clear key hb
  go_enter Tryd.func71, Tryd.ntmps71
  go_wp2_with (go_at_call 94; refine (K.out _).mono ?_; rintro e w1 ⟨rfl, q1⟩)
  go_ret
  exact ⟨rfl, q1⟩
end Go.Proofs.YtlenenfgedgmhaaDoor
