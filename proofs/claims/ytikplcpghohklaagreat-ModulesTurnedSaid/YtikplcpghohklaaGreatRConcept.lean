/- The reference's concept. -/
import Derived.Test.YtikplcpghohklaaGreatRList
namespace Go.Proofs.YtikplcpghohklaaGreat
set_option linter.unusedSimpArgs false
set_option linter.unusedVariables false
open Go.RowKit

set_option maxRecDepth 100000 in
set_option maxHeartbeats 8000000 in
theorem r_concept {l : Language} {x : List Value} (w w0 : World) (k : Nat) (y : Concept) (hx : Language.Is w0 w0.heap.size x l) (hw : Below w0.heap.size w0 w) (hd : l.concepts[k]? = some y) :
    Calls Tryz.prog 125 #[.agg x.toArray, .int .i64 (k : Int)] w (ConPost (eM 128 (conceptE l.concepts) k y) w) := by
  obtain ⟨v1, v2, v3, v4, v5, v6, rfl, s1, s2, s3, s4, s5, s6, _, oN, _⟩ := hx
  obtain ⟨a1, n1, c1, rfl⟩ := s1.form'
  obtain ⟨a2, n2, c2, rfl⟩ := s2.form'
  obtain ⟨a3, n3, c3, rfl⟩ := s3.form'
  obtain ⟨a4, n4, c4, rfl⟩ := s4.form'
  obtain ⟨a5, n5, c5, rfl⟩ := s5.form'
  obtain ⟨a6, n6, c6, rfl⟩ := s6.form'
  have HW := Lib.hid hw
  have S := Lib.hid s2
  have hk : k < n2 := by have := s2.len; have := (List.getElem?_eq_some_iff.1 hd).1; omega
  have hcap := s2.caps
  have HN := Lib.hid (show l.concepts.length = n2 from s2.len.symm)
  obtain ⟨b, off, xx, rfl, hbB, hxl, hR, hxx⟩ := s2.at_ hd
  have HX0 := Lib.hid hR
  obtain ⟨cn, cs, cab, cp, ck, cr⟩ := y
  obtain ⟨u1, u2, u3, rfl, t1, t2, t3, f1, f2, f3, o1, o2⟩ := hR
  simp only at t1 t2 t3 f1 f2 f3 o1 o2 hxx
  obtain ⟨m1, hm1⟩ : ∃ n, cp.length = n := ⟨_, rfl⟩
  obtain ⟨m2, hm2⟩ : ∃ n, ck.length = n := ⟨_, rfl⟩
  obtain ⟨m3, hm3⟩ : ∃ n, cr.length = n := ⟨_, rfl⟩
  obtain ⟨p1, q1, rfl⟩ : ∃ a c, u1 = .slice a m1 c := by obtain ⟨a, c, h, _⟩ := t1.form; exact ⟨a, c, by rw [h, hm1]⟩
  obtain ⟨p2, q2, rfl⟩ : ∃ a c, u2 = .slice a m2 c := by obtain ⟨a, c, h, _⟩ := t2.form; exact ⟨a, c, by rw [h, hm2]⟩
  obtain ⟨p3, q3, rfl⟩ : ∃ a c, u3 = .slice a m3 c := by obtain ⟨a, c, h, _⟩ := t3.form; exact ⟨a, c, by rw [h, hm3]⟩
  have M1 := Lib.hid hm1
  have M2 := Lib.hid hm2
  have M3 := Lib.hid hm3
  rw [hm1] at f1
  rw [hm2] at f2
  rw [hm3] at f3
  unfold Fit at f1 f2 f3
  have h0 : w.cell? ⟨b, off + k * 6, none⟩ = some (.string cn) := by have := (hw.cell (p := ⟨b, off + k * 6 + 0, none⟩) hbB).trans (hxx 0 _ rfl); simpa using this
  have h1 : w.cell? ⟨b, off + k * 6 + 1, none⟩ = some (.string cs) := (hw.cell (p := ⟨b, off + k * 6 + 1, none⟩) hbB).trans (hxx 1 _ rfl)
  have h2 : w.cell? ⟨b, off + k * 6 + 2, none⟩ = some (.bool cab) := (hw.cell (p := ⟨b, off + k * 6 + 2, none⟩) hbB).trans (hxx 2 _ rfl)
  have h3 : w.cell? ⟨b, off + k * 6 + 3, none⟩ = some (.slice p1 m1 q1) := (hw.cell (p := ⟨b, off + k * 6 + 3, none⟩) hbB).trans (hxx 3 _ rfl)
  have h4 : w.cell? ⟨b, off + k * 6 + 4, none⟩ = some (.slice p2 m2 q2) := (hw.cell (p := ⟨b, off + k * 6 + 4, none⟩) hbB).trans (hxx 4 _ rfl)
  have h5 : w.cell? ⟨b, off + k * 6 + 5, none⟩ = some (.slice p3 m3 q3) := (hw.cell (p := ⟨b, off + k * 6 + 5, none⟩) hbB).trans (hxx 5 _ rfl)
  have hn63 : n2 ≤ 9223372036854775807 := by unfold maxLen at hcap; omega
  have lb : b < w.heap.size := by have := hw.size; omega
  clear s1 s2 s3 s4 s5 s6 hw hd hxx hxl hcap t1 t2 t3 hm1 hm2 hm3
  by_cases h8 : 128 ≤ k
  · have hv : eM 128 (conceptE l.concepts) k ⟨cn, cs, cab, cp, ck, cr⟩ = (0, 4) := by unfold eM; rw [if_pos h8]
    rw [hv]; clear hv
    have d8 : decide (128 ≤ (k : Int)) = true := by simp; omega
    go_enter Tryz.func125, Tryz.ntmps125
    go_wp2_with fail
    go_ret2
    exact ⟨⟨_, rfl, fun _ => rfl⟩, (Kept2.new w _ _ _ _).low⟩
  have d8 : decide (128 ≤ (k : Int)) = false := by simp; omega
  have HV : Hid (eM 128 (conceptE l.concepts) k ⟨cn, cs, cab, cp, ck, cr⟩ = if okName cn = false then (0, 2) else if (l.concepts.take k).any (fun x => decide (x.name = cn)) then (0, 40) else if cs.size ≠ 0 ∧ okName cs = false then (0, 2) else if cs = cn then (0, 43) else partsE ⟨cn, cs, cab, cp, ck, cr⟩) := by
    show _ = _
    unfold eM
    rw [if_neg h8]
    rfl
  clear h8
  rcases hR : okName cn with _ | _
  · have hv : eM 128 (conceptE l.concepts) k ⟨cn, cs, cab, cp, ck, cr⟩ = (0, 2) := by rw [HV.out, if_pos hR]
    rw [hv]; clear hv HV
    have RR := Lib.hid (fun W => rright_of cn o1 false hR W)
    clear hR
    go_enter Tryz.func125, Tryz.ntmps125
    go_wp2_with (first | (go_at_call 122; with_reducible refine (RR.out _).mono ?_; rintro e w1 ⟨rfl, qq1⟩; have K1 : Hid (Kept2 w 39 #[.string l.name, .int .i64 l.version, .slice a1 n1 c1, .slice (some ⟨b, off, none⟩) n2 c2, .slice a3 n3 c3, .slice a4 n4 c4, .slice a5 n5 c5, .slice a6 n6 c6] 58 #[.string cn, .string cs, .bool cab, .slice p1 m1 q1, .slice p2 m2 q2, .slice p3 m3 q3] w1) := Lib.hid ((Kept2.new w _ _ _ _).step (qq1.below _)); obtain ⟨g1, _⟩ := bcell (qq1.below (w.heap.size + 2))))
    go_ret2
    exact ⟨⟨_, rfl, fun _ => rfl⟩, K1.out.low⟩
  have RR := Lib.hid (fun W => rright_of cn o1 true hR W)
  have HV2 : Hid (eM 128 (conceptE l.concepts) k ⟨cn, cs, cab, cp, ck, cr⟩ = if (l.concepts.take k).any (fun x => decide (x.name = cn)) then (0, 40) else if cs.size ≠ 0 ∧ okName cs = false then (0, 2) else if cs = cn then (0, 43) else partsE ⟨cn, cs, cab, cp, ck, cr⟩) := by show _ = _; rw [HV.out, if_neg (by rw [hR]; simp)]
  have HRn := Lib.hid hR
  clear hR HV
  go_enter Tryz.func125, Tryz.ntmps125
  go_wp2_with (first | (go_at_call 122; with_reducible refine (RR.out _).mono ?_; rintro e w1 ⟨rfl, qq1⟩; have K1 : Hid (Kept2 w 39 #[.string l.name, .int .i64 l.version, .slice a1 n1 c1, .slice (some ⟨b, off, none⟩) n2 c2, .slice a3 n3 c3, .slice a4 n4 c4, .slice a5 n5 c5, .slice a6 n6 c6] 58 #[.string cn, .string cs, .bool cab, .slice p1 m1 q1, .slice p2 m2 q2, .slice p3 m3 q3] w1) := Lib.hid ((Kept2.new w _ _ _ _).step (qq1.below _)); obtain ⟨g1, _⟩ := bcell (qq1.below (w.heap.size + 2))))
  go_loopw [7] (fun j wr => ∃ i : Nat, i ≤ k ∧ j = .int .i64 (i : Int) ∧ Hid (Kept2 w 39 #[.string l.name, .int .i64 l.version, .slice a1 n1 c1, .slice (some ⟨b, off, none⟩) n2 c2, .slice a3 n3 c3, .slice a4 n4 c4, .slice a5 n5 c5, .slice a6 n6 c6] 58 #[.string cn, .string cs, .bool cab, .slice p1 m1 q1, .slice p2 m2 q2, .slice p3 m3 q3] wr) ∧ Hid (∀ (a : Nat) (d : Concept), a < i → l.concepts[a]? = some d → (fun x : Concept => decide (x.name = cn)) d = false)) (fun j _ => k - (intOf j).toNat)
  case atStart => exact ⟨0, Nat.zero_le _, rfl, K1, fun a d ha => by omega⟩
  case round =>
    obtain ⟨i, hi, rfl, hK, hf⟩ := hrel
    have hWr := HW.out.trans (hK.out.low.mono HW.out.size)
    have kk : wr.cell? ⟨w.heap.size, 3, none⟩ = some (.slice (some ⟨b, off, none⟩) n2 c2) := hK.out.b1.cell rfl
    have lw : w.heap.size < wr.heap.size := hK.out.b1.lt
    have lbr : b < wr.heap.size := by omega
    have k0 : wr.cell? ⟨w.heap.size + 1, 0, none⟩ = some (.string cn) := hK.out.b2.cell rfl
    have k1 : wr.cell? ⟨w.heap.size + 1, 1, none⟩ = some (.string cs) := hK.out.b2.cell rfl
    have k2 : wr.cell? ⟨w.heap.size + 1, 2, none⟩ = some (.bool cab) := hK.out.b2.cell rfl
    have k3 : wr.cell? ⟨w.heap.size + 1, 3, none⟩ = some (.slice p1 m1 q1) := hK.out.b2.cell rfl
    have k4 : wr.cell? ⟨w.heap.size + 1, 4, none⟩ = some (.slice p2 m2 q2) := hK.out.b2.cell rfl
    have k5 : wr.cell? ⟨w.heap.size + 1, 5, none⟩ = some (.slice p3 m3 q3) := hK.out.b2.cell rfl
    have lw1 : w.heap.size + 1 < wr.heap.size := hK.out.b2.lt
    by_cases hlt : i < k
    · obtain ⟨z, he⟩ := get_some HN.out (show i < n2 by omega)
      obtain ⟨_, xz, hzl, ⟨vz1, vz2, vz3, rfl, _⟩, hxz⟩ := (S.out.below hWr).at2 he
      have z0 := hxz 0 _ rfl
      simp only [Nat.add_zero] at z0
      have He := Lib.hid he
      have hin : i < n2 := by omega
      have HK := hK
      obtain ⟨zc, hzc⟩ : ∃ t, z.name = t := ⟨_, rfl⟩
      have Hzc := Lib.hid hzc
      rw [hzc] at z0
      clear he hxz hzl hWr hK hzc
      by_cases e0 : zc = cn
      · have hv : eM 128 (conceptE l.concepts) k ⟨cn, cs, cab, cp, ck, cr⟩ = (0, 40) := by rw [HV2.out, if_pos (any_yes hlt He.out (by simp [Hzc.out, e0]))]
        rw [hv]
        have e0' : (zc.toList == cn.toList) = true := by rw [e0]; simp
        clear hv HV2 e0
        go_wp2_with fail
        go_quiet (fail)
        go_wp2_with fail
        go_ret2
        exact ⟨⟨_, rfl, fun _ => rfl⟩, below_drewN HK.out.low _⟩
      · have e0' : (zc.toList == cn.toList) = false := by simpa [toList_inj] using e0
        have HE0 := Lib.hid e0
        clear e0
        go_wp2_with fail
        go_quiet (fail)
        go_wp2_with fail
        go_roundw
        case rel => exact ⟨i + 1, by omega, by go_num, Lib.hid (HK.out.step (below_drewN (Below.refl _ _) _)), so_far1 He.out (by simp [Hzc.out, HE0.out]) hf.out⟩
        case measure => simp [intOf]; omega
    · obtain rfl : k = i := by omega
      have HV3 : Hid (eM 128 (conceptE l.concepts) k ⟨cn, cs, cab, cp, ck, cr⟩ = if cs.size ≠ 0 ∧ okName cs = false then (0, 2) else if cs = cn then (0, 43) else partsE ⟨cn, cs, cab, cp, ck, cr⟩) := by show _ = _; rw [HV2.out, if_neg (by rw [any_no (by rw [HN.out]; omega) hf.out]; simp)]
      have HK := hK
      obtain ⟨wo, hwo⟩ : ∃ wo, wo = wr := ⟨wr, rfl⟩
      subst hwo
      clear hlt HV2 hWr hK hf
      by_cases h0 : cs.size = 0
      · obtain rfl := empty_txt h0
        have hne : ¬ (⟨#[]⟩ : ByteArray) = cn := by intro e; have := HRn.out; rw [← e] at this; exact absurd this (by decide)
        have ne3 : ¬ cn.toList = [] := ne_empty (fun e => hne (empty_txt e).symm)
        have ne4 : (cn.toList == []) = false := by simpa using ne3
        have ne5 : ¬ [] = cn.toList := fun e => ne3 e.symm
        have ne6 : ([] == cn.toList) = false := by simpa using ne5
        have HP : Hid (eM 128 (conceptE l.concepts) k ⟨cn, ⟨#[]⟩, cab, cp, ck, cr⟩ = partsE ⟨cn, ⟨#[]⟩, cab, cp, ck, cr⟩) := by show _ = _; rw [HV3.out, if_neg (by intro h; exact h.1 rfl), if_neg hne]
        have HX := HX0
        have KF := HK
        clear HV3 hne
        go_wp2_with fail
        obtain ⟨wp, hwp⟩ : ∃ wp, wp = wo := ⟨wo, rfl⟩
        clear hwp
        go_loopw [8, 9] (fun j _ wr => ∃ z : Nat, z ≤ m1 ∧ j = .int .i64 (z : Int) ∧ Hid (Kept2 w 39 #[.string l.name, .int .i64 l.version, .slice a1 n1 c1, .slice (some ⟨b, off, none⟩) n2 c2, .slice a3 n3 c3, .slice a4 n4 c4, .slice a5 n5 c5, .slice a6 n6 c6] 58 #[.string cn, .string ⟨#[]⟩, .bool cab, .slice p1 m1 q1, .slice p2 m2 q2, .slice p3 m3 q3] wr) ∧ Hid (firstE (propE cp) 0 cp = firstE (propE cp) z (cp.drop z))) (fun j _ _ => m1 - (intOf j).toNat)
        case atStart => exact ⟨0, Nat.zero_le _, rfl, KF, Lib.hid (by rw [List.drop_zero])⟩
        case round =>
          obtain ⟨z, hz, rfl, hK, hf⟩ := hrel
          have hWr := HW.out.trans (hK.out.low.mono HW.out.size)
          have k0 : wr.cell? ⟨w.heap.size + 1, 0, none⟩ = some (.string cn) := hK.out.b2.cell rfl
          have k1 : wr.cell? ⟨w.heap.size + 1, 1, none⟩ = some (.string ⟨#[]⟩) := hK.out.b2.cell rfl
          have k2 : wr.cell? ⟨w.heap.size + 1, 2, none⟩ = some (.bool cab) := hK.out.b2.cell rfl
          have k3 : wr.cell? ⟨w.heap.size + 1, 3, none⟩ = some (.slice p1 m1 q1) := hK.out.b2.cell rfl
          have k4 : wr.cell? ⟨w.heap.size + 1, 4, none⟩ = some (.slice p2 m2 q2) := hK.out.b2.cell rfl
          have k5 : wr.cell? ⟨w.heap.size + 1, 5, none⟩ = some (.slice p3 m3 q3) := hK.out.b2.cell rfl
          have lw1 : w.heap.size + 1 < wr.heap.size := hK.out.b2.lt
          by_cases hlt : z < m1
          · obtain ⟨y, hd⟩ := get_some M1.out hlt
            have HC := Lib.hid (r_prop wr w0 z y HX.out hWr hd)
            have hst := firstE_step (f := propE cp) hd
            rw [← hf.out] at hst
            have Hst := Lib.hid hst
            obtain ⟨e, he⟩ : ∃ e, propE cp z y = e := ⟨_, rfl⟩
            have HC2 : Hid (Calls Tryz.prog 181 #[.agg #[.string cn, .string ⟨#[]⟩, .bool cab, .slice p1 m1 q1, .slice p2 m2 q2, .slice p3 m3 q3], .int .i64 (z : Int)] wr fun en w' => en = .returned (.int .i64 (e : Int)) ∧ Below wr.heap.size wr w') := by rw [← he]; exact HC.out
            rw [he] at Hst
            have HK := hK
            clear hd hst hf he HC hWr hK
            by_cases e0 : e = 0
            · subst e0
              have hg : firstE (propE cp) 0 cp = firstE (propE cp) (z + 1) (cp.drop (z + 1)) := by rw [Hst.out, if_neg (by simp)]
              have HG := Lib.hid hg
              clear hg Hst
              go_wp2_with (go_at_call 181; refine HC2.out.mono ?_; rintro en w1 ⟨rfl, b1⟩; obtain ⟨g1, _⟩ := bcell (b1.mono lw1))
              go_roundw
              case rel => exact ⟨z + 1, by omega, by go_num, Lib.hid (HK.out.step b1), HG⟩
              case measure => simp [intOf]; omega
            · have hs : firstE (propE cp) 0 cp = some (z, e) := by rw [Hst.out, if_pos e0]
              have hv : eM 128 (conceptE l.concepts) k ⟨cn, ⟨#[]⟩, cab, cp, ck, cr⟩ = (1 + z, e) := by rw [HP.out]; exact partsE_p hs
              have HZ := Lib.hid hv
              have ne1 : ¬ (e : Int) = 0 := by omega
              have ne2 : ((e : Int) != 0) = true := by simpa using ne1
              clear hs hv Hst e0
              go_wp2_with (go_at_call 181; refine HC2.out.mono ?_; rintro en w1 ⟨rfl, b1⟩; obtain ⟨g1, _⟩ := bcell (b1.mono lw1))
              go_ret2
              exact ⟨⟨((1 + z : Nat) : Int), by rw [HZ.out]; first | rfl | (simp; done) | (simp; omega), fun _ => by rw [HZ.out]⟩, (HK.out.step b1).low⟩
          · obtain rfl : m1 = z := by omega
            clear hlt
            have F1 := Lib.hid (show firstE (propE cp) 0 cp = none by rw [hf.out]; exact firstE_end (by rw [M1.out]; exact Nat.le_refl _))
            have KF := hK
            obtain ⟨wo, hwo⟩ : ∃ wo, wo = wr := ⟨wr, rfl⟩
            subst hwo
            clear hf hK hz hWr
            go_wp2_with fail
            obtain ⟨wp, hwp⟩ : ∃ wp, wp = wo := ⟨wo, rfl⟩
            clear hwp
            go_loopw [10, 11] (fun j _ wr => ∃ z : Nat, z ≤ m2 ∧ j = .int .i64 (z : Int) ∧ Hid (Kept2 w 39 #[.string l.name, .int .i64 l.version, .slice a1 n1 c1, .slice (some ⟨b, off, none⟩) n2 c2, .slice a3 n3 c3, .slice a4 n4 c4, .slice a5 n5 c5, .slice a6 n6 c6] 58 #[.string cn, .string ⟨#[]⟩, .bool cab, .slice p1 m1 q1, .slice p2 m2 q2, .slice p3 m3 q3] wr) ∧ Hid (firstE (kidE ck) 0 ck = firstE (kidE ck) z (ck.drop z))) (fun j _ _ => m2 - (intOf j).toNat)
            case atStart => exact ⟨0, Nat.zero_le _, rfl, KF, Lib.hid (by rw [List.drop_zero])⟩
            case round =>
              obtain ⟨z, hz, rfl, hK, hf⟩ := hrel
              have hWr := HW.out.trans (hK.out.low.mono HW.out.size)
              have k0 : wr.cell? ⟨w.heap.size + 1, 0, none⟩ = some (.string cn) := hK.out.b2.cell rfl
              have k1 : wr.cell? ⟨w.heap.size + 1, 1, none⟩ = some (.string ⟨#[]⟩) := hK.out.b2.cell rfl
              have k2 : wr.cell? ⟨w.heap.size + 1, 2, none⟩ = some (.bool cab) := hK.out.b2.cell rfl
              have k3 : wr.cell? ⟨w.heap.size + 1, 3, none⟩ = some (.slice p1 m1 q1) := hK.out.b2.cell rfl
              have k4 : wr.cell? ⟨w.heap.size + 1, 4, none⟩ = some (.slice p2 m2 q2) := hK.out.b2.cell rfl
              have k5 : wr.cell? ⟨w.heap.size + 1, 5, none⟩ = some (.slice p3 m3 q3) := hK.out.b2.cell rfl
              have lw1 : w.heap.size + 1 < wr.heap.size := hK.out.b2.lt
              by_cases hlt : z < m2
              · obtain ⟨y, hd⟩ := get_some M2.out hlt
                have HC := Lib.hid (r_kid wr w0 z y HX.out hWr hd)
                have hst := firstE_step (f := kidE ck) hd
                rw [← hf.out] at hst
                have Hst := Lib.hid hst
                obtain ⟨e, he⟩ : ∃ e, kidE ck z y = e := ⟨_, rfl⟩
                have HC2 : Hid (Calls Tryz.prog 182 #[.agg #[.string cn, .string ⟨#[]⟩, .bool cab, .slice p1 m1 q1, .slice p2 m2 q2, .slice p3 m3 q3], .int .i64 (z : Int)] wr fun en w' => en = .returned (.int .i64 (e : Int)) ∧ Below wr.heap.size wr w') := by rw [← he]; exact HC.out
                rw [he] at Hst
                have HK := hK
                clear hd hst hf he HC hWr hK
                by_cases e0 : e = 0
                · subst e0
                  have hg : firstE (kidE ck) 0 ck = firstE (kidE ck) (z + 1) (ck.drop (z + 1)) := by rw [Hst.out, if_neg (by simp)]
                  have HG := Lib.hid hg
                  clear hg Hst
                  go_wp2_with (go_at_call 182; refine HC2.out.mono ?_; rintro en w1 ⟨rfl, b1⟩; obtain ⟨g1, _⟩ := bcell (b1.mono lw1))
                  go_roundw
                  case rel => exact ⟨z + 1, by omega, by go_num, Lib.hid (HK.out.step b1), HG⟩
                  case measure => simp [intOf]; omega
                · have hs : firstE (kidE ck) 0 ck = some (z, e) := by rw [Hst.out, if_pos e0]
                  have hv : eM 128 (conceptE l.concepts) k ⟨cn, ⟨#[]⟩, cab, cp, ck, cr⟩ = (1 + m1 + z, e) := by rw [HP.out]; exact (partsE_k F1.out hs).trans (by rw [M1.out])
                  have HZ := Lib.hid hv
                  have ne1 : ¬ (e : Int) = 0 := by omega
                  have ne2 : ((e : Int) != 0) = true := by simpa using ne1
                  clear hs hv Hst e0
                  go_wp2_with (go_at_call 182; refine HC2.out.mono ?_; rintro en w1 ⟨rfl, b1⟩; obtain ⟨g1, _⟩ := bcell (b1.mono lw1))
                  go_ret2
                  exact ⟨⟨((1 + m1 + z : Nat) : Int), by rw [HZ.out]; first | rfl | (simp; done) | (simp; omega), fun _ => by rw [HZ.out]⟩, (HK.out.step b1).low⟩
              · obtain rfl : m2 = z := by omega
                clear hlt
                have F2 := Lib.hid (show firstE (kidE ck) 0 ck = none by rw [hf.out]; exact firstE_end (by rw [M2.out]; exact Nat.le_refl _))
                have KF := hK
                obtain ⟨wo, hwo⟩ : ∃ wo, wo = wr := ⟨wr, rfl⟩
                subst hwo
                clear hf hK hz hWr
                go_wp2_with fail
                obtain ⟨wp, hwp⟩ : ∃ wp, wp = wo := ⟨wo, rfl⟩
                clear hwp
                go_loopw [12, 13] (fun j _ wr => ∃ z : Nat, z ≤ m3 ∧ j = .int .i64 (z : Int) ∧ Hid (Kept2 w 39 #[.string l.name, .int .i64 l.version, .slice a1 n1 c1, .slice (some ⟨b, off, none⟩) n2 c2, .slice a3 n3 c3, .slice a4 n4 c4, .slice a5 n5 c5, .slice a6 n6 c6] 58 #[.string cn, .string ⟨#[]⟩, .bool cab, .slice p1 m1 q1, .slice p2 m2 q2, .slice p3 m3 q3] wr) ∧ Hid (firstE (refE cr) 0 cr = firstE (refE cr) z (cr.drop z))) (fun j _ _ => m3 - (intOf j).toNat)
                case atStart => exact ⟨0, Nat.zero_le _, rfl, KF, Lib.hid (by rw [List.drop_zero])⟩
                case round =>
                  obtain ⟨z, hz, rfl, hK, hf⟩ := hrel
                  have hWr := HW.out.trans (hK.out.low.mono HW.out.size)
                  have k0 : wr.cell? ⟨w.heap.size + 1, 0, none⟩ = some (.string cn) := hK.out.b2.cell rfl
                  have k1 : wr.cell? ⟨w.heap.size + 1, 1, none⟩ = some (.string ⟨#[]⟩) := hK.out.b2.cell rfl
                  have k2 : wr.cell? ⟨w.heap.size + 1, 2, none⟩ = some (.bool cab) := hK.out.b2.cell rfl
                  have k3 : wr.cell? ⟨w.heap.size + 1, 3, none⟩ = some (.slice p1 m1 q1) := hK.out.b2.cell rfl
                  have k4 : wr.cell? ⟨w.heap.size + 1, 4, none⟩ = some (.slice p2 m2 q2) := hK.out.b2.cell rfl
                  have k5 : wr.cell? ⟨w.heap.size + 1, 5, none⟩ = some (.slice p3 m3 q3) := hK.out.b2.cell rfl
                  have lw1 : w.heap.size + 1 < wr.heap.size := hK.out.b2.lt
                  by_cases hlt : z < m3
                  · obtain ⟨y, hd⟩ := get_some M3.out hlt
                    have HC := Lib.hid (r_ref wr w0 z y HX.out hWr hd)
                    have hst := firstE_step (f := refE cr) hd
                    rw [← hf.out] at hst
                    have Hst := Lib.hid hst
                    obtain ⟨e, he⟩ : ∃ e, refE cr z y = e := ⟨_, rfl⟩
                    have HC2 : Hid (Calls Tryz.prog 183 #[.agg #[.string cn, .string ⟨#[]⟩, .bool cab, .slice p1 m1 q1, .slice p2 m2 q2, .slice p3 m3 q3], .int .i64 (z : Int)] wr fun en w' => en = .returned (.int .i64 (e : Int)) ∧ Below wr.heap.size wr w') := by rw [← he]; exact HC.out
                    rw [he] at Hst
                    have HK := hK
                    clear hd hst hf he HC hWr hK
                    by_cases e0 : e = 0
                    · subst e0
                      have hg : firstE (refE cr) 0 cr = firstE (refE cr) (z + 1) (cr.drop (z + 1)) := by rw [Hst.out, if_neg (by simp)]
                      have HG := Lib.hid hg
                      clear hg Hst
                      go_wp2_with (go_at_call 183; refine HC2.out.mono ?_; rintro en w1 ⟨rfl, b1⟩; obtain ⟨g1, _⟩ := bcell (b1.mono lw1))
                      go_roundw
                      case rel => exact ⟨z + 1, by omega, by go_num, Lib.hid (HK.out.step b1), HG⟩
                      case measure => simp [intOf]; omega
                    · have hs : firstE (refE cr) 0 cr = some (z, e) := by rw [Hst.out, if_pos e0]
                      have hv : eM 128 (conceptE l.concepts) k ⟨cn, ⟨#[]⟩, cab, cp, ck, cr⟩ = (1 + m1 + m2 + z, e) := by rw [HP.out]; exact (partsE_r F1.out F2.out hs).trans (by rw [M1.out, M2.out])
                      have HZ := Lib.hid hv
                      have ne1 : ¬ (e : Int) = 0 := by omega
                      have ne2 : ((e : Int) != 0) = true := by simpa using ne1
                      clear hs hv Hst e0
                      go_wp2_with (go_at_call 183; refine HC2.out.mono ?_; rintro en w1 ⟨rfl, b1⟩; obtain ⟨g1, _⟩ := bcell (b1.mono lw1))
                      go_ret2
                      exact ⟨⟨((1 + m1 + m2 + z : Nat) : Int), by rw [HZ.out]; first | rfl | (simp; done) | (simp; omega), fun _ => by rw [HZ.out]⟩, (HK.out.step b1).low⟩
                  · obtain rfl : m3 = z := by omega
                    clear hlt
                    have F3 := Lib.hid (show firstE (refE cr) 0 cr = none by rw [hf.out]; exact firstE_end (by rw [M3.out]; exact Nat.le_refl _))
                    have KF := hK
                    obtain ⟨wo, hwo⟩ : ∃ wo, wo = wr := ⟨wr, rfl⟩
                    subst hwo
                    clear hf hK hz hWr
                    have HZ := Lib.hid (show eM 128 (conceptE l.concepts) k ⟨cn, ⟨#[]⟩, cab, cp, ck, cr⟩ = (0, 0) by rw [HP.out]; exact partsE_0 F1.out F2.out F3.out)
                    go_wp2_with fail
                    go_ret2
                    exact ⟨⟨0, by rw [HZ.out]; rfl, fun h => absurd (by rw [HZ.out]) h⟩, KF.out.low⟩
      have ne1 : ¬ cs.toList = [] := ne_empty h0
      have ne2 : (cs.toList == []) = false := by simpa using ne1
      rcases hC : okName cs with _ | _
      · have hv : eM 128 (conceptE l.concepts) k ⟨cn, cs, cab, cp, ck, cr⟩ = (0, 2) := by rw [HV3.out, if_pos ⟨h0, hC⟩]
        have HZ := Lib.hid hv
        have RS := Lib.hid (fun W => rright_of cs o2 false hC W)
        clear hv HV3 hC
        go_wp2_with (first | (go_at_call 122; with_reducible refine (RS.out _).mono ?_; rintro e w2 ⟨rfl, qq2⟩; have K2 : Hid (Kept2 w 39 #[.string l.name, .int .i64 l.version, .slice a1 n1 c1, .slice (some ⟨b, off, none⟩) n2 c2, .slice a3 n3 c3, .slice a4 n4 c4, .slice a5 n5 c5, .slice a6 n6 c6] 58 #[.string cn, .string cs, .bool cab, .slice p1 m1 q1, .slice p2 m2 q2, .slice p3 m3 q3] w2) := Lib.hid (HK.out.step (qq2.below _)); obtain ⟨g2, _⟩ := bcell (qq2.below (w.heap.size + 2))))
        go_ret2
        exact ⟨⟨0, by rw [HZ.out]; rfl, fun _ => by rw [HZ.out]; rfl⟩, K2.out.low⟩
      have RS := Lib.hid (fun W => rright_of cs o2 true hC W)
      by_cases hD : cs = cn
      · have hv : eM 128 (conceptE l.concepts) k ⟨cn, cs, cab, cp, ck, cr⟩ = (0, 43) := by rw [HV3.out, if_neg (by rw [hC]; simp), if_pos hD]
        have HZ := Lib.hid hv
        have e0' : (cs.toList == cn.toList) = true := by rw [hD]; simp
        clear hv HV3 hC hD
        go_wp2_with (first | (go_at_call 122; with_reducible refine (RS.out _).mono ?_; rintro e w2 ⟨rfl, qq2⟩; have K2 : Hid (Kept2 w 39 #[.string l.name, .int .i64 l.version, .slice a1 n1 c1, .slice (some ⟨b, off, none⟩) n2 c2, .slice a3 n3 c3, .slice a4 n4 c4, .slice a5 n5 c5, .slice a6 n6 c6] 58 #[.string cn, .string cs, .bool cab, .slice p1 m1 q1, .slice p2 m2 q2, .slice p3 m3 q3] w2) := Lib.hid (HK.out.step (qq2.below _)); obtain ⟨g2, _⟩ := bcell (qq2.below (w.heap.size + 2))))
        go_ret2
        exact ⟨⟨0, by rw [HZ.out]; rfl, fun _ => by rw [HZ.out]; rfl⟩, K2.out.low⟩
      have e0' : (cs.toList == cn.toList) = false := by simpa [toList_inj] using hD
      have HP : Hid (eM 128 (conceptE l.concepts) k ⟨cn, cs, cab, cp, ck, cr⟩ = partsE ⟨cn, cs, cab, cp, ck, cr⟩) := by show _ = _; rw [HV3.out, if_neg (by rw [hC]; simp), if_neg hD]
      have HX := HX0
      clear HV3 hC hD
      go_wp2_with (first | (go_at_call 122; with_reducible refine (RS.out _).mono ?_; rintro e w2 ⟨rfl, qq2⟩; have K2 : Hid (Kept2 w 39 #[.string l.name, .int .i64 l.version, .slice a1 n1 c1, .slice (some ⟨b, off, none⟩) n2 c2, .slice a3 n3 c3, .slice a4 n4 c4, .slice a5 n5 c5, .slice a6 n6 c6] 58 #[.string cn, .string cs, .bool cab, .slice p1 m1 q1, .slice p2 m2 q2, .slice p3 m3 q3] w2) := Lib.hid (HK.out.step (qq2.below _)); obtain ⟨g2, _⟩ := bcell (qq2.below (w.heap.size + 2))))
      have KF := K2
      obtain ⟨wo2, hwo2⟩ : ∃ wo2, wo2 = wo := ⟨wo, rfl⟩
      clear hwo2
      obtain ⟨wp, hwp⟩ : ∃ wp, wp = wo := ⟨wo, rfl⟩
      clear hwp
      go_loopw [8, 9] (fun j _ wr => ∃ z : Nat, z ≤ m1 ∧ j = .int .i64 (z : Int) ∧ Hid (Kept2 w 39 #[.string l.name, .int .i64 l.version, .slice a1 n1 c1, .slice (some ⟨b, off, none⟩) n2 c2, .slice a3 n3 c3, .slice a4 n4 c4, .slice a5 n5 c5, .slice a6 n6 c6] 58 #[.string cn, .string cs, .bool cab, .slice p1 m1 q1, .slice p2 m2 q2, .slice p3 m3 q3] wr) ∧ Hid (firstE (propE cp) 0 cp = firstE (propE cp) z (cp.drop z))) (fun j _ _ => m1 - (intOf j).toNat)
      case atStart => exact ⟨0, Nat.zero_le _, rfl, KF, Lib.hid (by rw [List.drop_zero])⟩
      case round =>
        obtain ⟨z, hz, rfl, hK, hf⟩ := hrel
        have hWr := HW.out.trans (hK.out.low.mono HW.out.size)
        have k0 : wr.cell? ⟨w.heap.size + 1, 0, none⟩ = some (.string cn) := hK.out.b2.cell rfl
        have k1 : wr.cell? ⟨w.heap.size + 1, 1, none⟩ = some (.string cs) := hK.out.b2.cell rfl
        have k2 : wr.cell? ⟨w.heap.size + 1, 2, none⟩ = some (.bool cab) := hK.out.b2.cell rfl
        have k3 : wr.cell? ⟨w.heap.size + 1, 3, none⟩ = some (.slice p1 m1 q1) := hK.out.b2.cell rfl
        have k4 : wr.cell? ⟨w.heap.size + 1, 4, none⟩ = some (.slice p2 m2 q2) := hK.out.b2.cell rfl
        have k5 : wr.cell? ⟨w.heap.size + 1, 5, none⟩ = some (.slice p3 m3 q3) := hK.out.b2.cell rfl
        have lw1 : w.heap.size + 1 < wr.heap.size := hK.out.b2.lt
        by_cases hlt : z < m1
        · obtain ⟨y, hd⟩ := get_some M1.out hlt
          have HC := Lib.hid (r_prop wr w0 z y HX.out hWr hd)
          have hst := firstE_step (f := propE cp) hd
          rw [← hf.out] at hst
          have Hst := Lib.hid hst
          obtain ⟨e, he⟩ : ∃ e, propE cp z y = e := ⟨_, rfl⟩
          have HC2 : Hid (Calls Tryz.prog 181 #[.agg #[.string cn, .string cs, .bool cab, .slice p1 m1 q1, .slice p2 m2 q2, .slice p3 m3 q3], .int .i64 (z : Int)] wr fun en w' => en = .returned (.int .i64 (e : Int)) ∧ Below wr.heap.size wr w') := by rw [← he]; exact HC.out
          rw [he] at Hst
          have HK := hK
          clear hd hst hf he HC hWr hK
          by_cases e0 : e = 0
          · subst e0
            have hg : firstE (propE cp) 0 cp = firstE (propE cp) (z + 1) (cp.drop (z + 1)) := by rw [Hst.out, if_neg (by simp)]
            have HG := Lib.hid hg
            clear hg Hst
            go_wp2_with (go_at_call 181; refine HC2.out.mono ?_; rintro en w1 ⟨rfl, b1⟩; obtain ⟨g1, _⟩ := bcell (b1.mono lw1))
            go_roundw
            case rel => exact ⟨z + 1, by omega, by go_num, Lib.hid (HK.out.step b1), HG⟩
            case measure => simp [intOf]; omega
          · have hs : firstE (propE cp) 0 cp = some (z, e) := by rw [Hst.out, if_pos e0]
            have hv : eM 128 (conceptE l.concepts) k ⟨cn, cs, cab, cp, ck, cr⟩ = (1 + z, e) := by rw [HP.out]; exact partsE_p hs
            have HZ := Lib.hid hv
            have ne1 : ¬ (e : Int) = 0 := by omega
            have ne2 : ((e : Int) != 0) = true := by simpa using ne1
            clear hs hv Hst e0
            go_wp2_with (go_at_call 181; refine HC2.out.mono ?_; rintro en w1 ⟨rfl, b1⟩; obtain ⟨g1, _⟩ := bcell (b1.mono lw1))
            go_ret2
            exact ⟨⟨((1 + z : Nat) : Int), by rw [HZ.out]; first | rfl | (simp; done) | (simp; omega), fun _ => by rw [HZ.out]⟩, (HK.out.step b1).low⟩
        · obtain rfl : m1 = z := by omega
          clear hlt
          have F1 := Lib.hid (show firstE (propE cp) 0 cp = none by rw [hf.out]; exact firstE_end (by rw [M1.out]; exact Nat.le_refl _))
          have KF := hK
          obtain ⟨wo, hwo⟩ : ∃ wo, wo = wr := ⟨wr, rfl⟩
          subst hwo
          clear hf hK hz hWr
          go_wp2_with fail
          obtain ⟨wp, hwp⟩ : ∃ wp, wp = wo := ⟨wo, rfl⟩
          clear hwp
          go_loopw [10, 11] (fun j _ wr => ∃ z : Nat, z ≤ m2 ∧ j = .int .i64 (z : Int) ∧ Hid (Kept2 w 39 #[.string l.name, .int .i64 l.version, .slice a1 n1 c1, .slice (some ⟨b, off, none⟩) n2 c2, .slice a3 n3 c3, .slice a4 n4 c4, .slice a5 n5 c5, .slice a6 n6 c6] 58 #[.string cn, .string cs, .bool cab, .slice p1 m1 q1, .slice p2 m2 q2, .slice p3 m3 q3] wr) ∧ Hid (firstE (kidE ck) 0 ck = firstE (kidE ck) z (ck.drop z))) (fun j _ _ => m2 - (intOf j).toNat)
          case atStart => exact ⟨0, Nat.zero_le _, rfl, KF, Lib.hid (by rw [List.drop_zero])⟩
          case round =>
            obtain ⟨z, hz, rfl, hK, hf⟩ := hrel
            have hWr := HW.out.trans (hK.out.low.mono HW.out.size)
            have k0 : wr.cell? ⟨w.heap.size + 1, 0, none⟩ = some (.string cn) := hK.out.b2.cell rfl
            have k1 : wr.cell? ⟨w.heap.size + 1, 1, none⟩ = some (.string cs) := hK.out.b2.cell rfl
            have k2 : wr.cell? ⟨w.heap.size + 1, 2, none⟩ = some (.bool cab) := hK.out.b2.cell rfl
            have k3 : wr.cell? ⟨w.heap.size + 1, 3, none⟩ = some (.slice p1 m1 q1) := hK.out.b2.cell rfl
            have k4 : wr.cell? ⟨w.heap.size + 1, 4, none⟩ = some (.slice p2 m2 q2) := hK.out.b2.cell rfl
            have k5 : wr.cell? ⟨w.heap.size + 1, 5, none⟩ = some (.slice p3 m3 q3) := hK.out.b2.cell rfl
            have lw1 : w.heap.size + 1 < wr.heap.size := hK.out.b2.lt
            by_cases hlt : z < m2
            · obtain ⟨y, hd⟩ := get_some M2.out hlt
              have HC := Lib.hid (r_kid wr w0 z y HX.out hWr hd)
              have hst := firstE_step (f := kidE ck) hd
              rw [← hf.out] at hst
              have Hst := Lib.hid hst
              obtain ⟨e, he⟩ : ∃ e, kidE ck z y = e := ⟨_, rfl⟩
              have HC2 : Hid (Calls Tryz.prog 182 #[.agg #[.string cn, .string cs, .bool cab, .slice p1 m1 q1, .slice p2 m2 q2, .slice p3 m3 q3], .int .i64 (z : Int)] wr fun en w' => en = .returned (.int .i64 (e : Int)) ∧ Below wr.heap.size wr w') := by rw [← he]; exact HC.out
              rw [he] at Hst
              have HK := hK
              clear hd hst hf he HC hWr hK
              by_cases e0 : e = 0
              · subst e0
                have hg : firstE (kidE ck) 0 ck = firstE (kidE ck) (z + 1) (ck.drop (z + 1)) := by rw [Hst.out, if_neg (by simp)]
                have HG := Lib.hid hg
                clear hg Hst
                go_wp2_with (go_at_call 182; refine HC2.out.mono ?_; rintro en w1 ⟨rfl, b1⟩; obtain ⟨g1, _⟩ := bcell (b1.mono lw1))
                go_roundw
                case rel => exact ⟨z + 1, by omega, by go_num, Lib.hid (HK.out.step b1), HG⟩
                case measure => simp [intOf]; omega
              · have hs : firstE (kidE ck) 0 ck = some (z, e) := by rw [Hst.out, if_pos e0]
                have hv : eM 128 (conceptE l.concepts) k ⟨cn, cs, cab, cp, ck, cr⟩ = (1 + m1 + z, e) := by rw [HP.out]; exact (partsE_k F1.out hs).trans (by rw [M1.out])
                have HZ := Lib.hid hv
                have ne1 : ¬ (e : Int) = 0 := by omega
                have ne2 : ((e : Int) != 0) = true := by simpa using ne1
                clear hs hv Hst e0
                go_wp2_with (go_at_call 182; refine HC2.out.mono ?_; rintro en w1 ⟨rfl, b1⟩; obtain ⟨g1, _⟩ := bcell (b1.mono lw1))
                go_ret2
                exact ⟨⟨((1 + m1 + z : Nat) : Int), by rw [HZ.out]; first | rfl | (simp; done) | (simp; omega), fun _ => by rw [HZ.out]⟩, (HK.out.step b1).low⟩
            · obtain rfl : m2 = z := by omega
              clear hlt
              have F2 := Lib.hid (show firstE (kidE ck) 0 ck = none by rw [hf.out]; exact firstE_end (by rw [M2.out]; exact Nat.le_refl _))
              have KF := hK
              obtain ⟨wo, hwo⟩ : ∃ wo, wo = wr := ⟨wr, rfl⟩
              subst hwo
              clear hf hK hz hWr
              go_wp2_with fail
              obtain ⟨wp, hwp⟩ : ∃ wp, wp = wo := ⟨wo, rfl⟩
              clear hwp
              go_loopw [12, 13] (fun j _ wr => ∃ z : Nat, z ≤ m3 ∧ j = .int .i64 (z : Int) ∧ Hid (Kept2 w 39 #[.string l.name, .int .i64 l.version, .slice a1 n1 c1, .slice (some ⟨b, off, none⟩) n2 c2, .slice a3 n3 c3, .slice a4 n4 c4, .slice a5 n5 c5, .slice a6 n6 c6] 58 #[.string cn, .string cs, .bool cab, .slice p1 m1 q1, .slice p2 m2 q2, .slice p3 m3 q3] wr) ∧ Hid (firstE (refE cr) 0 cr = firstE (refE cr) z (cr.drop z))) (fun j _ _ => m3 - (intOf j).toNat)
              case atStart => exact ⟨0, Nat.zero_le _, rfl, KF, Lib.hid (by rw [List.drop_zero])⟩
              case round =>
                obtain ⟨z, hz, rfl, hK, hf⟩ := hrel
                have hWr := HW.out.trans (hK.out.low.mono HW.out.size)
                have k0 : wr.cell? ⟨w.heap.size + 1, 0, none⟩ = some (.string cn) := hK.out.b2.cell rfl
                have k1 : wr.cell? ⟨w.heap.size + 1, 1, none⟩ = some (.string cs) := hK.out.b2.cell rfl
                have k2 : wr.cell? ⟨w.heap.size + 1, 2, none⟩ = some (.bool cab) := hK.out.b2.cell rfl
                have k3 : wr.cell? ⟨w.heap.size + 1, 3, none⟩ = some (.slice p1 m1 q1) := hK.out.b2.cell rfl
                have k4 : wr.cell? ⟨w.heap.size + 1, 4, none⟩ = some (.slice p2 m2 q2) := hK.out.b2.cell rfl
                have k5 : wr.cell? ⟨w.heap.size + 1, 5, none⟩ = some (.slice p3 m3 q3) := hK.out.b2.cell rfl
                have lw1 : w.heap.size + 1 < wr.heap.size := hK.out.b2.lt
                by_cases hlt : z < m3
                · obtain ⟨y, hd⟩ := get_some M3.out hlt
                  have HC := Lib.hid (r_ref wr w0 z y HX.out hWr hd)
                  have hst := firstE_step (f := refE cr) hd
                  rw [← hf.out] at hst
                  have Hst := Lib.hid hst
                  obtain ⟨e, he⟩ : ∃ e, refE cr z y = e := ⟨_, rfl⟩
                  have HC2 : Hid (Calls Tryz.prog 183 #[.agg #[.string cn, .string cs, .bool cab, .slice p1 m1 q1, .slice p2 m2 q2, .slice p3 m3 q3], .int .i64 (z : Int)] wr fun en w' => en = .returned (.int .i64 (e : Int)) ∧ Below wr.heap.size wr w') := by rw [← he]; exact HC.out
                  rw [he] at Hst
                  have HK := hK
                  clear hd hst hf he HC hWr hK
                  by_cases e0 : e = 0
                  · subst e0
                    have hg : firstE (refE cr) 0 cr = firstE (refE cr) (z + 1) (cr.drop (z + 1)) := by rw [Hst.out, if_neg (by simp)]
                    have HG := Lib.hid hg
                    clear hg Hst
                    go_wp2_with (go_at_call 183; refine HC2.out.mono ?_; rintro en w1 ⟨rfl, b1⟩; obtain ⟨g1, _⟩ := bcell (b1.mono lw1))
                    go_roundw
                    case rel => exact ⟨z + 1, by omega, by go_num, Lib.hid (HK.out.step b1), HG⟩
                    case measure => simp [intOf]; omega
                  · have hs : firstE (refE cr) 0 cr = some (z, e) := by rw [Hst.out, if_pos e0]
                    have hv : eM 128 (conceptE l.concepts) k ⟨cn, cs, cab, cp, ck, cr⟩ = (1 + m1 + m2 + z, e) := by rw [HP.out]; exact (partsE_r F1.out F2.out hs).trans (by rw [M1.out, M2.out])
                    have HZ := Lib.hid hv
                    have ne1 : ¬ (e : Int) = 0 := by omega
                    have ne2 : ((e : Int) != 0) = true := by simpa using ne1
                    clear hs hv Hst e0
                    go_wp2_with (go_at_call 183; refine HC2.out.mono ?_; rintro en w1 ⟨rfl, b1⟩; obtain ⟨g1, _⟩ := bcell (b1.mono lw1))
                    go_ret2
                    exact ⟨⟨((1 + m1 + m2 + z : Nat) : Int), by rw [HZ.out]; first | rfl | (simp; done) | (simp; omega), fun _ => by rw [HZ.out]⟩, (HK.out.step b1).low⟩
                · obtain rfl : m3 = z := by omega
                  clear hlt
                  have F3 := Lib.hid (show firstE (refE cr) 0 cr = none by rw [hf.out]; exact firstE_end (by rw [M3.out]; exact Nat.le_refl _))
                  have KF := hK
                  obtain ⟨wo, hwo⟩ : ∃ wo, wo = wr := ⟨wr, rfl⟩
                  subst hwo
                  clear hf hK hz hWr
                  have HZ := Lib.hid (show eM 128 (conceptE l.concepts) k ⟨cn, cs, cab, cp, ck, cr⟩ = (0, 0) by rw [HP.out]; exact partsE_0 F1.out F2.out F3.out)
                  go_wp2_with fail
                  go_ret2
                  exact ⟨⟨0, by rw [HZ.out]; rfl, fun h => absurd (by rw [HZ.out]) h⟩, KF.out.low⟩
end Go.Proofs.YtikplcpghohklaaGreat
