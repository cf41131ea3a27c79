/- - -/
import Derived.Test.YtpkggobhhieeoaaDoorKM8
import Derived.Test.YtpkggobhhieeoaaDoorKM9
set_option maxRecDepth 100000
set_option maxHeartbeats 32000000
set_option linter.unusedSimpArgs false
set_option linter.unusedVariables false
namespace Go.Proofs.YtpkggobhhieeoaaDoor
open Go.RowKit
section
variable {q : Nat} {s : ByteArray} {v : Value} {i : Nat} {W : World}
theorem t_expr {R : (List Nat × Nat) ⊕ Nat} (hR : exprS (bs s) i = R) (h : RdS q s v i W) : Calls Tryd.prog 30 #[.pointer (some ⟨q, 0, none⟩)] W (TReads q s v W txtV R) := by
  obtain ⟨n, hn⟩ : ∃ n, s.size = n := ⟨_, rfl⟩
  have hln : (bs s).length = n := by rw [bs_len, hn]
  have hn' : (s.size : Int) = (n : Int) := by rw [hn]
  obtain ⟨f0, f1, f2, f3, f4, f5⟩ := h.facts
  have hle := h.le
  have hfew := h.few
  have PA : Hid (∀ E, i ≤ E → E ≤ n → (parseN (cutN (bs s) i E)).2.1 ≤ 4096 ∧ ∀ X, RdS q s v E X → Calls Tryd.prog 39 #[.string (s.extract i E)] X (ParseIs X (parseN (cutN (bs s) i E)))) := zH (fun E h1 h2 => by
    have hl : (cutN (bs s) i E).length ≤ 4096 := by rw [cut_len (by omega)]; omega
    refine ⟨Nat.le_trans (parse_in (cut_bytes (bs_bytes s) _ _) hl) hl, fun X hX => ?_⟩
    have := parse_any (s.extract i E) (by rw [← bs_len, bs_extract, List.length_drop, List.length_take]; unfold maxLen; omega) X hX.marks hX.signs
    rw [bs_extract] at this
    exact this)
  have UQ0 : Hid (∀ k, k ≤ n → ∀ (t : List Nat) (j e : Nat), unquoteN (bs s) (k : Int) = (t, (j : Int), e) → ∀ W, Calls Tryd.prog 41 #[.string s, .int .i64 (k : Int)] W fun x w' => x = .returned (.tuple #[.string (txt t), .int .i64 (j : Int), .int .i64 (e : Int)]) ∧ Below W.heap.size W w') := zH (fun k hk t j e hu W => t_unq (by omega) hfew hu W)
  rw [hn] at hle hfew
  obtain ⟨E, hE⟩ : ∃ E, endE (bs s) i = E := ⟨_, rfl⟩
  have HE0 := zH hE
  have hE2 : endTo (bs s) n i = E := by rw [← hE, ← hln]; rfl
  have HR := zH hR
  have HE := zH hE2
  have Hln := zH hln
  have Hn := zH hn
  have H := zH h
  have i0 : (0 : Int) ≤ (i : Int) := Int.natCast_nonneg _
  clear hR hE hE2 hln hn h
  go_enter Tryd.func30, Tryd.ntmps30
  go_wp2_with fail
  clear f0 f1 f2 f3 f4 f5
  go_loopg [4, 5] n (fun gk _ _ wr => ∃ k, i ≤ k ∧ k ≤ n ∧ n ≤ gk + k ∧ Hid (endTo (bs s) gk k = E) ∧ Hid (Mv q W wr) ∧ Hid (RdS q s v k wr))
  case atStart => exact ⟨i, Nat.le_refl _, hle, by omega, HE, zH (Mv.refl _ _), H⟩
  case round =>
    obtain ⟨k, hbk, hkn, hfk, hu, hm, hp⟩ := hrel
    obtain ⟨f0, f1, f2, f3, f4, f5⟩ := hp.out.facts
    have k0 : (0 : Int) ≤ (k : Int) := Int.natCast_nonneg _
    by_cases hlt : k < n
    · have hks : k < s.size := by rw [Hn.out]; exact hlt
      obtain ⟨c, hc, c256⟩ := get_bs hks
      have ix := fun W => index_txt W 9 Tryd.underlying9 hc .i64 _ rfl
      have d1 : decide (k < n) = true := by simpa using hlt
      have k2 : (k : Int) + 1 ≤ (n : Int) := by omega
      have k3 : (k : Int) < (n : Int) := by omega
      by_cases c1 : c = 125
      · subst c1
        have hE := end_end hu.out (fun _ => hc)
        have q1 : ((125 : Int) != 125) = false := by decide
        clear hc
        subst hE
        have HP := zH (PA.out _ hbk hkn)
        clear PA
        obtain ⟨⟨es, at_, er⟩, hP⟩ : ∃ z, parseN (cutN (bs s) i E) = z := ⟨_, rfl⟩
        have hat := HP.out.1
        have hx := HP.out.2
        rw [hP] at hat hx
        simp only at hat
        have PX := zH hx
        have hR := HR.out
        unfold exprS at hR
        rw [HE0.out, hP] at hR
        have i1 : (i : Int) ≤ (E : Int) := by omega
        have i2 : (E : Int) ≤ (n : Int) := by omega
        clear hP hx HP HR
        by_cases her : er = 0
        · rw [if_neg (by simpa using her)] at hR
          subst hR her
          clear hat
          go_wp2_with fail
          go_quiet (fail)
          go_wp2_with fail
          go_quiet (fail)
          go_wp2_with (go_at_call 39; refine (PX.out _ (by first | exact hp.out.quiet ⟨_, rfl⟩ | exact hp.out.quiet (Quiet.drewN ⟨_, rfl⟩ _))).mono ?_; rintro e w1 ⟨pv, rfl, hsl, h1⟩; obtain ⟨pa, pn, pc, hpv⟩ := hsl.form'; subst hpv; clear hsl; have M1 : Hid (Mv q W w1) := zH (by first | exact (hm.out.trans (Mv.quiet ⟨_, rfl⟩)).trans (Mv.belowB h1 f5) | exact (hm.out.trans (Mv.quiet (Quiet.drewN ⟨_, rfl⟩ _))).trans (Mv.belowB h1 f5)); have P1 : Hid (RdS q s v E w1) := zH (by first | exact (hp.out.quiet ⟨_, rfl⟩).keep h1 | exact (hp.out.quiet (Quiet.drewN ⟨_, rfl⟩ _)).keep h1); clear h1)
          go_ret
          have ha := (Below.refl w1.heap.size w1).alloc zL (.cells #[.slice pa pn pc] 69)
          exact ⟨by rw [txtV, ← cut_txt]; rfl, M1.out.trans (Mv.belowB ha P1.out.box.lt), P1.out.keep ha⟩
        · rw [if_pos her] at hR
          subst hR
          have e1 : ((er : Int) != 0) = true := by simp; omega
          have a5 : (at_ : Int) ≤ 5000 := by omega
          have a0 : (0 : Int) ≤ (at_ : Int) := Int.natCast_nonneg _
          clear hat her
          go_wp2_with fail
          go_quiet (fail)
          go_wp2_with fail
          go_quiet (fail)
          go_wp2_with (go_at_call 39; refine (PX.out _ (by first | exact hp.out.quiet ⟨_, rfl⟩ | exact hp.out.quiet (Quiet.drewN ⟨_, rfl⟩ _))).mono ?_; rintro e w1 ⟨pv, rfl, hsl, h1⟩; obtain ⟨pa, pn, pc, hpv⟩ := hsl.form'; subst hpv; clear hsl; have M1 : Hid (Mv q W w1) := zH (by first | exact (hm.out.trans (Mv.quiet ⟨_, rfl⟩)).trans (Mv.belowB h1 f5) | exact (hm.out.trans (Mv.quiet (Quiet.drewN ⟨_, rfl⟩ _))).trans (Mv.belowB h1 f5)); have P1 : Hid (RdS q s v E w1) := zH (by first | exact (hp.out.quiet ⟨_, rfl⟩).keep h1 | exact (hp.out.quiet (Quiet.drewN ⟨_, rfl⟩ _)).keep h1); clear h1)
          have ha := (Below.refl w1.heap.size w1).alloc zL (.cells #[.slice pa pn pc] 69)
          exact ⟨rfl, by simp [thrownT], M1.out.trans (Mv.belowB ha P1.out.box.lt)⟩
      have e1 : ((c : Int) == 125) = false := by simp; omega
      have e1' : ((c : Int) != 125) = true := by simp; omega
      clear PA HE0 HR
      by_cases c2 : c = 34
      · subst c2
        obtain ⟨⟨t, j, e⟩, hQ⟩ : ∃ z, quoteAt (bs s) k = z := ⟨_, rfl⟩
        have UQ := zH (fun W => UQ0.out k hkn t j e (by rw [unquote_at hc, hQ]) W)
        clear UQ0
        by_cases he : e = 0
        · subst he
          have hj := quote_in (bs_bytes s) hQ
          rw [Hln.out] at hj
          have hv := end_quote hu.out (by omega) hc
          rw [show quoteTo (bs s) k = j by unfold quoteTo; rw [hQ]; rfl] at hv
          have HV := zH hv
          have hj2 := hj.2.1
          have hj3 := hj.2.2
          clear hv hQ hc hj
          go_wp2_with fail
          go_quiet (fail)
          go_wp2_with fail
          go_quiet (fail)
          go_wp2_with fail
          generalize hws : World.drewN _ _ = ws
          have PS : Hid (RdS q s v k ws) := zH (by rw [← hws]; first | exact hp.out.quiet ⟨_, rfl⟩ | exact hp.out.quiet (Quiet.drewN ⟨_, rfl⟩ _))
          have MS : Hid (Mv q W ws) := zH (by rw [← hws]; first | exact hm.out.trans (Mv.quiet ⟨_, rfl⟩) | exact hm.out.trans (Mv.quiet (Quiet.drewN ⟨_, rfl⟩ _)))
          clear hws f0 f1 f2 f3 f4 f5
          obtain ⟨g0, g1, g2, g3, g4, g5⟩ := PS.out.facts
          go_region_held3 (fun w' => w'.cell? ⟨q, 0, none⟩ = some (.string s) ∧ w'.cell? ⟨q, 1, none⟩ = some (.int .i64 (k : Int)))
            (first | exact ⟨g0, g1⟩ | exact ⟨K0, K1⟩ | go_keep | fail)
            (first
              | (go_at_call 41; refine (UQ.out _).mono ?_; rintro e w1 ⟨rfl, h1⟩; have M1 : Hid (Mv q W w1) := zH ((MS.out.trans (Mv.quiet ⟨1, rfl⟩)).trans (Mv.belowB h1 g5)); have P1 := zH ((PS.out.quiet ⟨1, rfl⟩).keep h1); clear h1; obtain ⟨K0, K1, K2, K3, K4, K5⟩ := P1.out.facts))
          go_wp2_with fail
          have PE := P1.out.setN (j := j) (by rw [Hn.out]; exact hj3)
          go_roundg (gk - 1)
          case measure => omega
          case rel => exact ⟨j, by omega, hj3, by omega, HV.out, zH (M1.out.trans PE.1), zH PE.2⟩
        · have hv := end_quote hu.out (by omega) hc
          rw [show quoteTo (bs s) k = n by unfold quoteTo; rw [hQ, if_neg he, Hln.out]] at hv
          have HV := zH hv
          have e0 : ((e : Int) != 0) = true := by simp; omega
          clear hv hQ hc he
          go_wp2_with fail
          go_quiet (fail)
          go_wp2_with fail
          go_quiet (fail)
          go_wp2_with fail
          generalize hws : World.drewN _ _ = ws
          have PS : Hid (RdS q s v k ws) := zH (by rw [← hws]; first | exact hp.out.quiet ⟨_, rfl⟩ | exact hp.out.quiet (Quiet.drewN ⟨_, rfl⟩ _))
          have MS : Hid (Mv q W ws) := zH (by rw [← hws]; first | exact hm.out.trans (Mv.quiet ⟨_, rfl⟩) | exact hm.out.trans (Mv.quiet (Quiet.drewN ⟨_, rfl⟩ _)))
          clear hws f0 f1 f2 f3 f4 f5
          obtain ⟨g0, g1, g2, g3, g4, g5⟩ := PS.out.facts
          go_region_held3 (fun w' => w'.cell? ⟨q, 0, none⟩ = some (.string s) ∧ w'.cell? ⟨q, 1, none⟩ = some (.int .i64 (k : Int)))
            (first | exact ⟨g0, g1⟩ | exact ⟨K0, K1⟩ | go_keep | fail)
            (first
              | (go_at_call 41; refine (UQ.out _).mono ?_; rintro e w1 ⟨rfl, h1⟩; have M1 : Hid (Mv q W w1) := zH ((MS.out.trans (Mv.quiet ⟨1, rfl⟩)).trans (Mv.belowB h1 g5)); have P1 := zH ((PS.out.quiet ⟨1, rfl⟩).keep h1); clear h1; obtain ⟨K0, K1, K2, K3, K4, K5⟩ := P1.out.facts))
          go_wp2_with fail
          have PE := P1.out.setN (j := n) (by rw [Hn.out]; exact Nat.le_refl _)
          go_roundg (gk - 1)
          case measure => omega
          case rel => exact ⟨n, by omega, Nat.le_refl _, by omega, HV.out, zH (M1.out.trans PE.1), zH PE.2⟩
      · have e2 : ((c : Int) == 34) = false := by simp; omega
        have e2' : ((c : Int) != 34) = true := by simp; omega
        have hv := end_on hu.out (by omega) hc c1 c2
        have HV := zH hv
        have HST := zH (fun X (hX : RdS q s v k X) => hX.step (j := k + 1) (u := .int .i64 ((k : Int) + 1)) (by go_num) (by rw [Hn.out]; exact hlt) 0)
        clear hv hc
        go_wp2_with fail
        go_quiet (fail)
        go_wp2_with fail
        go_quiet (fail)
        go_wp2_with fail
        generalize hws : World.drewN _ _ = ws
        have PS : Hid (RdS q s v k ws) := zH (by rw [← hws]; first | exact hp.out.quiet ⟨_, rfl⟩ | exact hp.out.quiet (Quiet.drewN ⟨_, rfl⟩ _))
        have MS : Hid (Mv q W ws) := zH (by rw [← hws]; first | exact hm.out.trans (Mv.quiet ⟨_, rfl⟩) | exact hm.out.trans (Mv.quiet (Quiet.drewN ⟨_, rfl⟩ _)))
        clear hws f0 f1 f2 f3 f4 f5
        obtain ⟨g0, g1, g2, g3, g4, g5⟩ := PS.out.facts
        go_roundg (gk - 1)
        case measure => omega
        case rel => exact ⟨k + 1, by omega, by omega, by omega, HV.out, zH (MS.out.trans (HST.out _ PS.out).1), zH (HST.out _ PS.out).2⟩
    · have d1 : decide (k < n) = false := by simpa using hlt
      have hE := end_end hu.out (fun h => absurd h (by rw [Hln.out]; exact hlt))
      subst hE
      have HP := zH (PA.out _ hbk hkn)
      clear PA
      obtain ⟨⟨es, at_, er⟩, hP⟩ : ∃ z, parseN (cutN (bs s) i E) = z := ⟨_, rfl⟩
      have hat := HP.out.1
      have hx := HP.out.2
      rw [hP] at hat hx
      simp only at hat
      have PX := zH hx
      have hR := HR.out
      unfold exprS at hR
      rw [HE0.out, hP] at hR
      have i1 : (i : Int) ≤ (E : Int) := by omega
      have i2 : (E : Int) ≤ (n : Int) := by omega
      clear hP hx HP HR
      by_cases her : er = 0
      · rw [if_neg (by simpa using her)] at hR
        subst hR her
        clear hat
        go_wp2_with fail
        go_quiet (fail)
        go_wp2_with fail
        go_quiet (fail)
        go_wp2_with (go_at_call 39; refine (PX.out _ (by first | exact hp.out.quiet ⟨_, rfl⟩ | exact hp.out.quiet (Quiet.drewN ⟨_, rfl⟩ _))).mono ?_; rintro e w1 ⟨pv, rfl, hsl, h1⟩; obtain ⟨pa, pn, pc, hpv⟩ := hsl.form'; subst hpv; clear hsl; have M1 : Hid (Mv q W w1) := zH (by first | exact (hm.out.trans (Mv.quiet ⟨_, rfl⟩)).trans (Mv.belowB h1 f5) | exact (hm.out.trans (Mv.quiet (Quiet.drewN ⟨_, rfl⟩ _))).trans (Mv.belowB h1 f5)); have P1 : Hid (RdS q s v E w1) := zH (by first | exact (hp.out.quiet ⟨_, rfl⟩).keep h1 | exact (hp.out.quiet (Quiet.drewN ⟨_, rfl⟩ _)).keep h1); clear h1)
        go_ret
        have ha := (Below.refl w1.heap.size w1).alloc zL (.cells #[.slice pa pn pc] 69)
        exact ⟨by rw [txtV, ← cut_txt]; rfl, M1.out.trans (Mv.belowB ha P1.out.box.lt), P1.out.keep ha⟩
      · rw [if_pos her] at hR
        subst hR
        have e1 : ((er : Int) != 0) = true := by simp; omega
        have a5 : (at_ : Int) ≤ 5000 := by omega
        have a0 : (0 : Int) ≤ (at_ : Int) := Int.natCast_nonneg _
        clear hat her
        go_wp2_with fail
        go_quiet (fail)
        go_wp2_with fail
        go_quiet (fail)
        go_wp2_with (go_at_call 39; refine (PX.out _ (by first | exact hp.out.quiet ⟨_, rfl⟩ | exact hp.out.quiet (Quiet.drewN ⟨_, rfl⟩ _))).mono ?_; rintro e w1 ⟨pv, rfl, hsl, h1⟩; obtain ⟨pa, pn, pc, hpv⟩ := hsl.form'; subst hpv; clear hsl; have M1 : Hid (Mv q W w1) := zH (by first | exact (hm.out.trans (Mv.quiet ⟨_, rfl⟩)).trans (Mv.belowB h1 f5) | exact (hm.out.trans (Mv.quiet (Quiet.drewN ⟨_, rfl⟩ _))).trans (Mv.belowB h1 f5)); have P1 : Hid (RdS q s v E w1) := zH (by first | exact (hp.out.quiet ⟨_, rfl⟩).keep h1 | exact (hp.out.quiet (Quiet.drewN ⟨_, rfl⟩ _)).keep h1); clear h1)
        have ha := (Below.refl w1.heap.size w1).alloc zL (.cells #[.slice pa pn pc] 69)
        exact ⟨rfl, by simp [thrownT], M1.out.trans (Mv.belowB ha P1.out.box.lt)⟩
end
end Go.Proofs.YtpkggobhhieeoaaDoor
