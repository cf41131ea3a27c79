/- - -/
import Derived.Test.YtpkggobhhieeoaaDoorKM11
import Derived.Test.YtpkggobhhieeoaaDoorKM12
set_option maxRecDepth 100000
set_option maxHeartbeats 32000000
set_option linter.unusedSimpArgs false
set_option linter.unusedVariables false
namespace Go.Proofs.YtpkggobhhieeoaaDoor
open Go.RowKit
theorem asks_true (s : ByteArray) (hs : s.size ≤ maxLen) (ha : asksN (bs s)) (w : World) : Calls Tryd.prog 13 #[.string s] w fun e w' => e = .returned (.bool true) ∧ Quiet w w' := by
  obtain ⟨j, hj1, hj2⟩ := ha
  have hjl : j + 1 < s.size := by have := (List.getElem?_eq_some_iff.1 hj2).1; rwa [bs_len] at this
  obtain ⟨n, hn⟩ : ∃ n, s.size = n := ⟨_, rfl⟩
  have hn' : (s.size : Int) = (n : Int) := by rw [hn]
  rw [hn] at hjl hs
  have hnm : (n : Int) ≤ 9223372036854775807 := by unfold maxLen at hs; omega
  have HN := zH hn
  have HJ := zH (And.intro hj1 hj2)
  clear hj1 hj2 hn hs
  go_enter Tryd.func13, Tryd.ntmps13
  go_wp2_with fail
  go_loopw [3] (fun v wr => ∃ k : Nat, k ≤ j ∧ v = .int .i64 (k : Int) ∧ Quiet w wr) (fun v _ => j + 1 - (intOf v).toNat)
  case atStart => exact ⟨0, Nat.zero_le _, rfl, Quiet.refl _⟩
  case round =>
    obtain ⟨k, hk, rfl, hq⟩ := hrel
    have k0 : (0 : Int) ≤ (k : Int) := Int.natCast_nonneg _
    have k1 : (k : Int) + 1 < (n : Int) := by omega
    have k2 : (k : Int) + 1 ≤ 9223372036854775807 := by omega
    have k3 : -9223372036854775808 ≤ (k : Int) + 1 := by omega
    have dk : decide ((k : Int) + 1 < (n : Int)) = true := decide_eq_true k1
    obtain ⟨c, hc, c256⟩ := get_bs (s := s) (k := k) (by rw [HN.out]; omega)
    obtain ⟨d, hd, d256⟩ := get_bs (s := s) (k := k + 1) (by rw [HN.out]; omega)
    have ix := fun W => index_txt W 9 Tryd.underlying9 hc .i64 _ rfl
    have ix2 := fun W => index_txt W 9 Tryd.underlying9 hd .i64 ((k : Int) + 1) (by omega)
    by_cases h1 : c = 123
    · subst h1
      by_cases h2 : d = 61
      · subst h2
        clear hc hd
        go_wp2_with fail
        go_ret
        exact ⟨rfl, hq⟩
      · have e2 : ((d : Int) == 61) = false := by simp; omega
        have hne : k ≠ j := fun e => by
          subst e
          rw [hd] at HJ
          have := HJ.out.2
          injection this with this
          exact h2 this
        clear hc hd
        go_wp2_with fail
        go_roundw
        case rel => exact ⟨k + 1, by omega, by go_num, hq⟩
        case measure => simp [intOf]; omega
    · have e1 : ((c : Int) == 123) = false := by simp; omega
      have hne : k ≠ j := fun e => by
        subst e
        rw [hc] at HJ
        have := HJ.out.1
        injection this with this
        exact h1 this
      clear hc hd
      go_wp2_with fail
      go_roundw
      case rel => exact ⟨k + 1, by omega, by go_num, hq⟩
      case measure => simp [intOf]; omega
theorem lawTs (s : ByteArray) (hs : s.size ≤ maxLen) (w : World) (hm : Marks w) (hg : Signs w) :
    Calls Tryd.prog 6 #[.string s] w fun e w' => e = .returned (.bool true) ∧ Below w.heap.size w w' := by
  have h4w : 4 < w.heap.size := by
    obtain ⟨t, fr, h⟩ := signs_block hg
    rcases Nat.lt_or_ge 4 w.heap.size with h0 | h0
    · exact h0
    · rw [Array.getElem?_eq_none h0] at h; cases h
  obtain ⟨⟨m, a, e⟩, hR⟩ : ∃ z, rowN (bs s) = z := ⟨_, rfl⟩
  have AW := zH (awake_any w hm hg)
  have PA := zH (fun W (hW : Below w.heap.size w W) => (show Calls Tryd.prog 7 #[.string s] W (RowIs W (m, a, e)) by have := row_any s hs W (hm.below hW) (hg.of_block (hW.block 4 h4w)); rwa [hR] at this))
  obtain ⟨⟨m2, a2, e2⟩, hR2⟩ : ∃ z, rowN ((bs s).take a) = z := ⟨_, rfl⟩
  have PB := zH (fun W (hW : Below w.heap.size w W) => (show Calls Tryd.prog 7 #[.string (s.extract 0 a)] W (RowIs W (m2, a2, e2)) by
    have h := row_any (s.extract 0 a) (by rw [← bs_len, bs_extract, List.drop_zero, List.length_take, bs_len]; omega) W (hm.below hW) (hg.of_block (hW.block 4 h4w))
    rwa [bs_extract, List.drop_zero, hR2] at h))
  have HAS : asksN (bs s) → Hid (∀ W, Calls Tryd.prog 13 #[.string s] W fun e w' => e = .returned (.bool true) ∧ Quiet W w') := fun h => zH (asks_true s hs h)
  have hl := stop_law (bs_bytes s) hR
  rw [bs_len, hR2] at hl
  obtain ⟨n, hn⟩ : ∃ n, m.length = n := ⟨_, rfl⟩
  obtain ⟨n2, hn2⟩ : ∃ n, m2.length = n := ⟨_, rfl⟩
  have HN := zH (And.intro hn hn2)
  obtain ⟨z, hz⟩ : ∃ z, s.size = z := ⟨_, rfl⟩
  have hz' : (s.size : Int) = (z : Int) := by rw [hz]
  rw [hn, hz] at hl
  have zm : (z : Int) ≤ 9223372036854775807 := by unfold maxLen at hs; omega
  clear hm hg h4w hR hR2 hs hn hz
  have tokA : True := trivial
  go_enter Tryd.func6, Tryd.ntmps6
  go_upto_region 4 with (first
    | (go_at_call 10; (refine AW.out.mono ?_); rintro e w1 ⟨rfl, h1⟩; have B1 := zH h1; clear h1)
    | (go_at_call 7; go_must (refine (PA.out _ B1.out).mono ?_); rintro e w2 ⟨v2, rfl, h1, h2⟩; obtain ⟨a1, c1, hv⟩ := h1.form; go_must (rw [HN.out.1] at hv); subst hv; have B2 := zH (B1.out.trans (h2.mono B1.out.size)); clear h1 h2))
  clear AW PA B1
  rcases hl with ⟨rfl, rfl, hle⟩ | ⟨rfl, rfl, hlt⟩ | ⟨h0, h3, hal, hst⟩
  · have d1 : (n : Int) ≤ 64 := by omega
    have d2 : decide ((n : Int) ≤ 64) = true := decide_eq_true d1
    clear PB HAS
    go_wp2_with fail
    go_ret
    exact ⟨rfl, B2.out⟩
  · have d1 : (4096 : Int) < (z : Int) := by omega
    have d2 : decide ((4096 : Int) < (z : Int)) = true := decide_eq_true d1
    clear PB HAS
    go_wp2_with fail
    go_ret
    exact ⟨rfl, B2.out⟩
  · have a0 : (0 : Int) ≤ (a : Int) := Int.natCast_nonneg _
    have a1' : (a : Int) ≤ (z : Int) := by omega
    have na : ¬ (a : Int) < 0 := by omega
    have da : decide ((a : Int) < 0) = false := decide_eq_false na
    have nb : ¬ (z : Int) < (a : Int) := by omega
    have db : decide ((z : Int) < (a : Int)) = false := decide_eq_false nb
    rcases hst with ⟨rfl, he2, hl2⟩ | ⟨rfl, hst⟩
    · simp only at he2 hl2
      subst he2
      have hn2 : n2 = 64 := by rw [← HN.out.2, hl2]
      subst hn2
      clear HAS
      go_wp2_with (go_at_call 7; go_must (refine (PB.out _ B2.out).mono ?_); rintro e w3 ⟨v3, rfl, h1, h2⟩; obtain ⟨a3, c3, hv⟩ := h1.form; go_must (rw [HN.out.2] at hv); subst hv; have B3 := zH (B2.out.trans (h2.mono B2.out.size)); clear h1 h2)
      go_ret
      exact ⟨rfl, B3.out⟩
    · simp only at hst
      rcases hst with rfl | ⟨rfl, hst⟩
      · clear HAS
        go_wp2_with (go_at_call 7; go_must (refine (PB.out _ B2.out).mono ?_); rintro e w3 ⟨v3, rfl, h1, h2⟩; obtain ⟨a3, c3, hv⟩ := h1.form; go_must (rw [HN.out.2] at hv); subst hv; have B3 := zH (B2.out.trans (h2.mono B2.out.size)); clear h1 h2)
        go_ret
        exact ⟨rfl, B3.out⟩
      · rcases hst with rfl | ⟨hlt, hask⟩
        · clear HAS
          go_wp2_with (go_at_call 7; go_must (refine (PB.out _ B2.out).mono ?_); rintro e w3 ⟨v3, rfl, h1, h2⟩; obtain ⟨a3, c3, hv⟩ := h1.form; go_must (rw [HN.out.2] at hv); subst hv; have B3 := zH (B2.out.trans (h2.mono B2.out.size)); clear h1 h2)
          go_ret
          exact ⟨rfl, B3.out⟩
        · have dq : ((a2 : Int) == (a : Int)) = false := by simp; omega
          have dl : (a2 : Int) < (a : Int) := by omega
          have dl2 : decide ((a2 : Int) < (a : Int)) = true := decide_eq_true dl
          have ASK := HAS hask
          clear HAS hask hlt
          go_wp2_with (first
            | (go_at_call 7; go_must (refine (PB.out _ B2.out).mono ?_); rintro e w3 ⟨v3, rfl, h1, h2⟩; obtain ⟨a3, c3, hv⟩ := h1.form; go_must (rw [HN.out.2] at hv); subst hv; have B3 := zH (B2.out.trans (h2.mono B2.out.size)); clear h1 h2)
            | (go_at_call 13; go_must (refine (ASK.out _).mono ?_); rintro e w4 ⟨rfl, h1⟩; have B4 := zH (B3.out.trans (h1.below _)); clear h1))
          go_ret
          exact ⟨rfl, B4.out⟩
end Go.Proofs.YtpkggobhhieeoaaDoor
