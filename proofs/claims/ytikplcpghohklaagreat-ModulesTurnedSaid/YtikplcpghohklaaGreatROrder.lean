/- The reference's Order. -/
import Derived.Test.YtikplcpghohklaaGreatRReady
import Derived.Test.YtikplcpghohklaaGreatRLeans
namespace Go.Proofs.YtikplcpghohklaaGreat
set_option linter.unusedSimpArgs false
set_option linter.unusedVariables false
open Go.RowKit

theorem info_i : (Tryz.prog.info? 3).map (fun i => (i.zero, i.size, i.bytes)) = some (some (.int .i64 0), 1, 8) := by kernel_rfl
/-- how long a slice is -/
def slen (v : Value) : Nat := match v with
  | .slice _ l _ => l
  | _ => 0
theorem nat_wf {n : Nat} (h : n ≤ 4096) : (Lit.int .i64 (n : Int)).wf = true := by
  rw [Lit.wf_int_iff]
  simp [IntKind.min, IntKind.max, IntKind.bits, IntKind.signed]
  omega
set_option maxRecDepth 100000 in
set_option maxHeartbeats 16000000 in
theorem r_order {ls : List Language} {v : Value} (w w0 : World) (hs : LsR w0 w0.heap.size v ls) (hw : Below w0.heap.size w0 w) :
    Calls Tryz.prog 72 #[v] w (OrdPost ls w) := by
  obtain ⟨a, c, rfl⟩ : ∃ a c, v = .slice a ls.length c := by obtain ⟨a, c, h, _⟩ := hs.form; exact ⟨a, c, h⟩
  obtain ⟨jI, hi, hz, hsz, hby⟩ := info_parts info_i
  have I := Lib.hid (And.intro hi (And.intro hz (And.intro hsz hby)))
  clear hi hz hsz hby
  have hcap := hs.caps
  have hn63 : ls.length ≤ 9223372036854775807 := by unfold maxLen at hcap; omega
  by_cases h128 : 128 < ls.length
  · have HZ := Lib.hid (show faultN ls = some ⟨1280, 0, 0, 4⟩ by unfold faultN; rw [if_pos h128])
    have HPl := Lib.hid (show wrap64 (wrap64 (10 * (128 : Int)) + 0) = 10 * 128 + 0 by unfold wrap64; omega)
    have d128 : decide (128 < (ls.length : Int)) = true := by simp; omega
    have K0 : Hid (Kept w w.heap.size 28 #[.int .i64 0, .int .i64 0, .int .i64 0, .int .i64 0] (w.alloc (.cells #[.int .i64 0, .int .i64 0, .int .i64 0, .int .i64 0] 28))) := Lib.hid (Kept.new w _ _)
    have tokP : True := trivial
    clear hs hw
    go_enter Tryz.func72, Tryz.ntmps72
    go_wp2_with (first | (go_at_call 40; have _t := tokP; refine (r_place _ _ _ _ _ HPl.out _).mono ?_; rintro en wf ⟨rfl, bf⟩; have CF : Hid (Kept w w.heap.size 28 #[.int .i64 0, .int .i64 0, .int .i64 0, .int .i64 0] wf) := Lib.hid (K0.out.step bf); have z0 : wf.cell? ⟨w.heap.size, 0, none⟩ = some (.int .i64 0) := CF.out.blk.cell rfl; have z1 : wf.cell? ⟨w.heap.size, 1, none⟩ = some (.int .i64 0) := CF.out.blk.cell rfl; have z2 : wf.cell? ⟨w.heap.size, 2, none⟩ = some (.int .i64 0) := CF.out.blk.cell rfl; have z3 : wf.cell? ⟨w.heap.size, 3, none⟩ = some (.int .i64 0) := CF.out.blk.cell rfl; have f0 := CF.out.blk.frozen 0; have f1 := CF.out.blk.frozen 1; have f2 := CF.out.blk.frozen 2; have f3 := CF.out.blk.frozen 3; clear tokP _t))
    have lf := CF.out.blk.lt
    refine bodyPost_ret (v := .tuple #[.slice none 0 0, .agg #[.int .i64 (10 * 128 + 0), .int .i64 (0), .int .i64 (0), .int .i64 (4)]]) (by simp [results, Tryz.results72, go_sem, z0, z1, z2, z3]) rfl ?_
    unfold OrdPost
    rw [HZ.out]
    refine ⟨?_, ?_⟩
    · show Ending.returned _ = Ending.returned _
      first | rfl | (congr 4 <;> (first | rfl | (push_cast; rfl) | (push_cast; omega)))
    · exact ((((CF.out.low.setCell (p := ⟨w.heap.size, 0, none⟩) (Nat.le_refl _) _).setCell (p := ⟨w.heap.size, 1, none⟩) (Nat.le_refl _) _).setCell (p := ⟨w.heap.size, 2, none⟩) (Nat.le_refl _) _).setCell (p := ⟨w.heap.size, 3, none⟩) (Nat.le_refl _) _)
  have d128 : decide (128 < (ls.length : Int)) = false := by simp; omega
  have hle : ls.length ≤ 128 := by omega
  obtain ⟨n, hn⟩ : ∃ n, ls.length = n := ⟨_, rfl⟩
  have HL := Lib.hid (fun (h : AllFound ls) W (hW : Below w0.heap.size w0 W) => r_leans W w0 hs hW hle h)
  have HRd := Lib.hid (fun (h : AllFound ls) W (hW : Below w0.heap.size w0 W) g n0 I h0 hI b hb => r_ready W w0 g n0 I hs hW hle h h0 hI b hb)
  rw [hn] at hs hle hn63 d128 HL HRd
  have Hn := Lib.hid hn
  have Hs := Lib.hid hs
  have Hw := Lib.hid hw
  have HF := Lib.hid (fun s W (h : Below w0.heap.size w0 W) => r_find s W w0 hs h)
  have HFn : Hid (faultN ls = match firstF aloneF 0 ls with
      | some f => some f
      | none => match firstF (namedF ls) 0 ls with
        | some f => some f
        | none => match firstF (usedF ls) 0 ls with
          | some f => some f
          | none => firstF (ringF ls) 0 ls) := by show _ = _; unfold faultN; rw [if_neg h128]; rfl
  rw [hn]
  clear hs hw hcap hn h128
  have K0 : Hid (Kept w w.heap.size 28 #[.int .i64 0, .int .i64 0, .int .i64 0, .int .i64 0] (w.alloc (.cells #[.int .i64 0, .int .i64 0, .int .i64 0, .int .i64 0] 28))) := Lib.hid (Kept.new w _ _)
  go_enter Tryz.func72, Tryz.ntmps72
  go_wp2_with fail
  go_loopw [4, 5] (fun j _ wr => ∃ k : Nat, k ≤ n ∧ j = .int .i64 (k : Int) ∧ Hid (Kept w w.heap.size 28 #[.int .i64 0, .int .i64 0, .int .i64 0, .int .i64 0] wr) ∧ Hid (firstF aloneF 0 ls = firstF aloneF k (ls.drop k))) (fun j _ _ => n - (intOf j).toNat)
  case atStart => exact ⟨0, Nat.zero_le _, rfl, K0, Lib.hid (by rw [List.drop_zero])⟩
  case round =>
    obtain ⟨k, hk, rfl, hK, hf⟩ := hrel
    have hWr := Hw.out.trans (hK.out.low.mono Hw.out.size)
    have lw : w.heap.size < wr.heap.size := hK.out.blk.lt
    by_cases hlt : k < n
    · obtain ⟨l, hd⟩ := get_some Hn.out hlt
      have hsW := Hs.out.same_base hWr
      obtain ⟨b, off, x, rfl, hbB, hxl, hR, hx⟩ := hsW.at_ hd
      have HC := Lib.hid (rcheck_any wr wr (hR.keep (fun _ _ => rfl) hWr.size) (Below.refl _ _))
      have hlist := checkE_list l
      obtain ⟨v1, v2, v3, v4, v5, v6, rfl, s1, s2, s3, s4, s5, s6, _⟩ := hR
      obtain ⟨a1, n1, c1, rfl⟩ := s1.form'
      obtain ⟨a2, n2, c2, rfl⟩ := s2.form'
      obtain ⟨a3, n3, c3, rfl⟩ := s3.form'
      obtain ⟨a4, n4, c4, rfl⟩ := s4.form'
      obtain ⟨a5, n5, c5, rfl⟩ := s5.form'
      obtain ⟨a6, n6, c6, rfl⟩ := s6.form'
      have x0 := hx 0 _ rfl
      have x1 := hx 1 _ rfl
      have x2 := hx 2 _ rfl
      have x3 := hx 3 _ rfl
      have x4 := hx 4 _ rfl
      have x5 := hx 5 _ rfl
      have x6 := hx 6 _ rfl
      have x7 := hx 7 _ rfl
      simp only [Nat.add_zero] at x0
      have hst := firstF_step (f := aloneF) hd
      rw [← hf.out] at hst
      have hne := @aloneF_none k l
      have hsm := @aloneF_some k l
      obtain ⟨⟨fl, fa, fp, fe⟩, hfe⟩ : ∃ f, checkE l = f := ⟨_, rfl⟩
      rw [hfe] at hne hsm hlist HC
      simp only at hne hsm hlist
      simp only [fltR] at HC
      have HK := hK
      clear hd hx hxl s1 s2 s3 s4 s5 s6 hsW hWr hK hfe hf
      by_cases e0 : fe = 0
      · have hg : firstF aloneF 0 ls = firstF aloneF (k + 1) (ls.drop (k + 1)) := by rw [hst, hne e0]
        have HG := Lib.hid hg
        subst e0
        clear hst hg hne hsm
        go_wp2_with (go_at_call 76; refine HC.out.mono ?_; rintro en w1 ⟨rfl, b1⟩; have K1 : Hid (Kept w w.heap.size 28 #[.int .i64 0, .int .i64 0, .int .i64 0, .int .i64 0] w1) := Lib.hid (HK.out.step b1))
        go_roundw
        case rel => exact ⟨k + 1, by omega, by go_num, Lib.hid (K1.out.alloc _), HG⟩
        case measure => simp [intOf]; omega
      · have hg : faultN ls = some ⟨10 * k + fl, fa, fp, fe⟩ := by rw [HFn.out, hst, hsm e0]
        have HZ := Lib.hid hg
        have HPl := Lib.hid (place_small (n := k) (l := (fl : Int)) (by omega) (by omega) (by omega))
        have tokP : True := trivial
        have ne1 : ¬ (fe : Int) = 0 := by omega
        have ne2 : ((fe : Int) != 0) = true := by simpa using ne1
        clear hst hg hne hsm e0
        go_wp2_with (first | (go_at_call 76; refine HC.out.mono ?_; rintro en w1 ⟨rfl, b1⟩; have K1 : Hid (Kept w w.heap.size 28 #[.int .i64 0, .int .i64 0, .int .i64 0, .int .i64 0] w1) := Lib.hid (HK.out.step b1); have K2 : Hid (Kept w w.heap.size 28 #[.int .i64 0, .int .i64 0, .int .i64 0, .int .i64 0] (w1.alloc (.cells #[.int .i64 (fl : Int), .int .i64 (fa : Int), .int .i64 (fp : Int), .int .i64 (fe : Int)] 28))) := Lib.hid (K1.out.alloc _)) | (go_at_call 40; have _t := tokP; refine (r_place _ _ _ _ _ HPl.out _).mono ?_; rintro en wf ⟨rfl, bf⟩; have CF : Hid (Kept w w.heap.size 28 #[.int .i64 0, .int .i64 0, .int .i64 0, .int .i64 0] wf) := Lib.hid (K2.out.step bf); have z0 : wf.cell? ⟨w.heap.size, 0, none⟩ = some (.int .i64 0) := CF.out.blk.cell rfl; have z1 : wf.cell? ⟨w.heap.size, 1, none⟩ = some (.int .i64 0) := CF.out.blk.cell rfl; have z2 : wf.cell? ⟨w.heap.size, 2, none⟩ = some (.int .i64 0) := CF.out.blk.cell rfl; have z3 : wf.cell? ⟨w.heap.size, 3, none⟩ = some (.int .i64 0) := CF.out.blk.cell rfl; have f0 := CF.out.blk.frozen 0; have f1 := CF.out.blk.frozen 1; have f2 := CF.out.blk.frozen 2; have f3 := CF.out.blk.frozen 3; clear tokP _t))
        have lf := CF.out.blk.lt
        refine bodyPost_ret (v := .tuple #[.slice none 0 0, .agg #[.int .i64 (10 * (k : Int) + (fl : Int)), .int .i64 ((fa : Int)), .int .i64 ((fp : Int)), .int .i64 ((fe : Int))]]) (by simp [results, Tryz.results72, go_sem, z0, z1, z2, z3]) rfl ?_
        unfold OrdPost
        rw [HZ.out]
        refine ⟨?_, ?_⟩
        · show Ending.returned _ = Ending.returned _
          first | rfl | (congr 4 <;> (first | rfl | (push_cast; rfl) | (push_cast; omega)))
        · exact ((((CF.out.low.setCell (p := ⟨w.heap.size, 0, none⟩) (Nat.le_refl _) _).setCell (p := ⟨w.heap.size, 1, none⟩) (Nat.le_refl _) _).setCell (p := ⟨w.heap.size, 2, none⟩) (Nat.le_refl _) _).setCell (p := ⟨w.heap.size, 3, none⟩) (Nat.le_refl _) _)
    · obtain rfl : n = k := by omega
      clear hlt
      have F1 := Lib.hid (show firstF aloneF 0 ls = none by rw [hf.out]; exact firstF_end (by rw [Hn.out]; exact Nat.le_refl _))
      have K0 := hK
      obtain ⟨wo, hwo⟩ : ∃ wo, wo = wr := ⟨wr, rfl⟩
      subst hwo
      clear hf hK hk hWr lw
      go_wp2_with fail
      go_loopw [6] (fun j wr => ∃ k : Nat, k ≤ n ∧ j = .int .i64 (k : Int) ∧ Hid (Kept w w.heap.size 28 #[.int .i64 0, .int .i64 0, .int .i64 0, .int .i64 0] wr) ∧ Hid (firstF (namedF ls) 0 ls = firstF (namedF ls) k (ls.drop k))) (fun j _ => n - (intOf j).toNat)
      case atStart => exact ⟨0, Nat.zero_le _, rfl, K0, Lib.hid (by rw [List.drop_zero])⟩
      case round =>
        obtain ⟨k, hk, rfl, hK, hf⟩ := hrel
        have hWr := Hw.out.trans (hK.out.low.mono Hw.out.size)
        have lw : w.heap.size < wr.heap.size := hK.out.blk.lt
        by_cases hlt : k < n
        · obtain ⟨l, hd⟩ := get_some Hn.out hlt
          obtain ⟨b, off, x, rfl, hbB, hxl, ⟨v1, v2, v3, v4, v5, v6, rfl, _⟩, hx⟩ := (Hs.out.below hWr).at_ hd
          have x0 := hx 0 _ rfl
          simp only [Nat.add_zero] at x0
          have hst := firstF_step (f := namedF ls) hd
          rw [← hf.out] at hst
          have HFs := Lib.hid (HF.out l.name wr hWr)
          obtain ⟨q, hq⟩ : ∃ q, findN ls l.name = q := ⟨_, rfl⟩
          have hnf : namedF ls k l = if q < k then some ⟨10 * k, 0, 0, 40⟩ else none := by unfold namedF; rw [hq]
          rw [hq] at HFs
          have HK := hK
          clear hd hx hxl hWr hK hf hq
          by_cases e0 : q < (k : Int)
          · have HZ := Lib.hid (show faultN ls = some ⟨10 * k, 0, 0, 40⟩ by rw [HFn.out, F1.out]; simp only; rw [hst, hnf, if_pos e0])
            have HPl := Lib.hid (place_small (n := k) (l := 0) (by omega) (by omega) (by omega))
            have tokP : True := trivial
            have e1 : decide (q < (k : Int)) = true := by simpa using e0
            clear hst hnf
            go_wp2_with (first | (go_at_call 73; with_reducible refine HFs.out.mono ?_; rintro en w1 ⟨rfl, qq⟩; have K1 : Hid (Kept w w.heap.size 28 #[.int .i64 0, .int .i64 0, .int .i64 0, .int .i64 0] w1) := Lib.hid (HK.out.step (qq.below _))) | (go_at_call 40; have _t := tokP; refine (r_place _ _ _ _ _ HPl.out _).mono ?_; rintro en wf ⟨rfl, bf⟩; have CF : Hid (Kept w w.heap.size 28 #[.int .i64 0, .int .i64 0, .int .i64 0, .int .i64 0] wf) := Lib.hid (K1.out.step bf); have z0 : wf.cell? ⟨w.heap.size, 0, none⟩ = some (.int .i64 0) := CF.out.blk.cell rfl; have z1 : wf.cell? ⟨w.heap.size, 1, none⟩ = some (.int .i64 0) := CF.out.blk.cell rfl; have z2 : wf.cell? ⟨w.heap.size, 2, none⟩ = some (.int .i64 0) := CF.out.blk.cell rfl; have z3 : wf.cell? ⟨w.heap.size, 3, none⟩ = some (.int .i64 0) := CF.out.blk.cell rfl; have f0 := CF.out.blk.frozen 0; have f1 := CF.out.blk.frozen 1; have f2 := CF.out.blk.frozen 2; have f3 := CF.out.blk.frozen 3; clear tokP _t))
            have lf := CF.out.blk.lt
            refine bodyPost_ret (v := .tuple #[.slice none 0 0, .agg #[.int .i64 (10 * (k : Int) + 0), .int .i64 (0), .int .i64 (0), .int .i64 (40)]]) (by simp [results, Tryz.results72, go_sem, z0, z1, z2, z3]) rfl ?_
            unfold OrdPost
            rw [HZ.out]
            refine ⟨?_, ?_⟩
            · show Ending.returned _ = Ending.returned _
              first | rfl | (congr 4 <;> (first | rfl | (push_cast; rfl) | (push_cast; omega)))
            · exact ((((CF.out.low.setCell (p := ⟨w.heap.size, 0, none⟩) (Nat.le_refl _) _).setCell (p := ⟨w.heap.size, 1, none⟩) (Nat.le_refl _) _).setCell (p := ⟨w.heap.size, 2, none⟩) (Nat.le_refl _) _).setCell (p := ⟨w.heap.size, 3, none⟩) (Nat.le_refl _) _)
          · have HG := Lib.hid (show firstF (namedF ls) 0 ls = firstF (namedF ls) (k + 1) (ls.drop (k + 1)) by rw [hst, hnf, if_neg e0])
            have e1 : decide (q < (k : Int)) = false := by simpa using e0
            clear hst hnf
            go_wp2_with (go_at_call 73; with_reducible refine HFs.out.mono ?_; rintro en w1 ⟨rfl, qq⟩; have K1 : Hid (Kept w w.heap.size 28 #[.int .i64 0, .int .i64 0, .int .i64 0, .int .i64 0] w1) := Lib.hid (HK.out.step (qq.below _)))
            go_roundw
            case rel => exact ⟨k + 1, by omega, by go_num, K1, HG⟩
            case measure => simp [intOf]; omega
        · obtain rfl : n = k := by omega
          clear hlt
          have F2 := Lib.hid (show firstF (namedF ls) 0 ls = none by rw [hf.out]; exact firstF_end (by rw [Hn.out]; exact Nat.le_refl _))
          have K0 := hK
          obtain ⟨wo, hwo⟩ : ∃ wo, wo = wr := ⟨wr, rfl⟩
          subst hwo
          clear hf hK hk hWr lw
          go_wp2_with fail
          go_loopw [7, 8] (fun j _ wr => ∃ k : Nat, k ≤ n ∧ j = .int .i64 (k : Int) ∧ Hid (Kept w w.heap.size 28 #[.int .i64 0, .int .i64 0, .int .i64 0, .int .i64 0] wr) ∧ Hid (firstF (usedF ls) 0 ls = firstF (usedF ls) k (ls.drop k))) (fun j _ _ => n - (intOf j).toNat)
          case atStart => exact ⟨0, Nat.zero_le _, rfl, K0, Lib.hid (by rw [List.drop_zero])⟩
          case round =>
            obtain ⟨k, hk, rfl, hK, hf⟩ := hrel
            by_cases hlt : k < n
            · obtain ⟨l, hd⟩ := get_some Hn.out hlt
              obtain ⟨b, off, x, rfl, hbB, hxl, ⟨v1, v2, v3, v4, v5, v6, rfl, su, _⟩, hx⟩ := Hs.out.at_ hd
              obtain ⟨m, hm⟩ : ∃ m, l.uses.length = m := ⟨_, rfl⟩
              obtain ⟨ua, uc, rfl⟩ : ∃ a c, v1 = .slice a m c := by obtain ⟨a, c, h, _⟩ := su.form; exact ⟨a, c, by rw [h, hm]⟩
              have X2 := Lib.hid (hx 2 _ rfl)
              have Hm := Lib.hid hm
              have Su := Lib.hid su
              have hmc := su.caps
              have hm63 : m ≤ 9223372036854775807 := by unfold maxLen at hmc; omega
              have hst := firstF_step (f := usedF ls) hd
              rw [← hf.out] at hst
              have Hst := Lib.hid hst
              have Huf := Lib.hid (show usedF ls k l = firstF (usedG ls k) 0 l.uses from rfl)
              have HK := hK
              clear hx hxl hd hm su hmc hst hf hK
              go_wp2_with fail
              obtain ⟨wo, hwo⟩ : ∃ wo, wo = wr := ⟨wr, rfl⟩
              subst hwo
              go_hide hQ4
              go_loopw [8] (fun j wr => ∃ i : Nat, i ≤ m ∧ j = .int .i64 (i : Int) ∧ Hid (Kept w w.heap.size 28 #[.int .i64 0, .int .i64 0, .int .i64 0, .int .i64 0] wr) ∧ Hid (firstF (usedG ls k) 0 l.uses = firstF (usedG ls k) i (l.uses.drop i))) (fun j _ => m - (intOf j).toNat)
              case atStart => exact ⟨0, Nat.zero_le _, rfl, HK, Lib.hid (by rw [List.drop_zero])⟩
              case round =>
                obtain ⟨i, hi, rfl, hK, hf⟩ := hrel
                have hWr := Hw.out.trans (hK.out.low.mono Hw.out.size)
                have lw : w.heap.size < wr.heap.size := hK.out.blk.lt
                have x2 : wr.cell? ⟨b, off + k * 8 + 2, none⟩ = some (.slice ua m uc) := (hWr.cell (p := ⟨b, off + k * 8 + 2, none⟩) hbB).trans X2.out
                by_cases hkm : i < m
                · obtain ⟨s, hsk⟩ := get_some Hm.out hkm
                  obtain ⟨b2, off2, y, rfl, hb2, hyl, ⟨rfl, _⟩, hy⟩ := Su.out.at_ hsk
                  have y0 : wr.cell? ⟨b2, off2 + i, none⟩ = some (.string s) := (hWr.cell (p := ⟨b2, off2 + i, none⟩) hb2).trans (by have := hy 0 _ rfl; simpa using this)
                  have hst := firstF_step (f := usedG ls k) hsk
                  rw [← hf.out] at hst
                  have HFs := Lib.hid (HF.out s wr hWr)
                  obtain ⟨q, hq⟩ : ∃ q, findN ls s = q := ⟨_, rfl⟩
                  have hnf : usedG ls k i s = if q < 0 then some ⟨10 * k + 1, i, 0, 240⟩ else none := by unfold usedG; rw [hq]
                  rw [hq] at HFs
                  have HK := hK
                  clear hsk hy hyl hWr hK hf hq
                  by_cases e0 : q < 0
                  · have HZ := Lib.hid (show faultN ls = some ⟨10 * k + 1, i, 0, 240⟩ by rw [HFn.out, F1.out]; simp only; rw [F2.out]; simp only; rw [Hst.out, Huf.out, hst, hnf, if_pos e0])
                    have HPl := Lib.hid (place_small (n := k) (l := 1) (by omega) (by omega) (by omega))
                    have tokP : True := trivial
                    have e1 : decide (q < 0) = true := by simpa using e0
                    clear hst hnf
                    subst hQ4
                    go_wp2_with (first | (go_at_call 73; with_reducible refine HFs.out.mono ?_; rintro en w1 ⟨rfl, qq⟩; have K1 : Hid (Kept w w.heap.size 28 #[.int .i64 0, .int .i64 0, .int .i64 0, .int .i64 0] w1) := Lib.hid (HK.out.step (qq.below _))) | (go_at_call 40; have _t := tokP; refine (r_place _ _ _ _ _ HPl.out _).mono ?_; rintro en wf ⟨rfl, bf⟩; have CF : Hid (Kept w w.heap.size 28 #[.int .i64 0, .int .i64 0, .int .i64 0, .int .i64 0] wf) := Lib.hid (K1.out.step bf); have z0 : wf.cell? ⟨w.heap.size, 0, none⟩ = some (.int .i64 0) := CF.out.blk.cell rfl; have z1 : wf.cell? ⟨w.heap.size, 1, none⟩ = some (.int .i64 0) := CF.out.blk.cell rfl; have z2 : wf.cell? ⟨w.heap.size, 2, none⟩ = some (.int .i64 0) := CF.out.blk.cell rfl; have z3 : wf.cell? ⟨w.heap.size, 3, none⟩ = some (.int .i64 0) := CF.out.blk.cell rfl; have f0 := CF.out.blk.frozen 0; have f1 := CF.out.blk.frozen 1; have f2 := CF.out.blk.frozen 2; have f3 := CF.out.blk.frozen 3; clear tokP _t))
                    have lf := CF.out.blk.lt
                    refine bodyPost_ret (v := .tuple #[.slice none 0 0, .agg #[.int .i64 (10 * (k : Int) + 1), .int .i64 ((i : Int)), .int .i64 (0), .int .i64 (240)]]) (by simp [results, Tryz.results72, go_sem, z0, z1, z2, z3]) rfl ?_
                    unfold OrdPost
                    rw [HZ.out]
                    refine ⟨?_, ?_⟩
                    · show Ending.returned _ = Ending.returned _
                      first | rfl | (congr 4 <;> (first | rfl | (push_cast; rfl) | (push_cast; omega)))
                    · exact ((((CF.out.low.setCell (p := ⟨w.heap.size, 0, none⟩) (Nat.le_refl _) _).setCell (p := ⟨w.heap.size, 1, none⟩) (Nat.le_refl _) _).setCell (p := ⟨w.heap.size, 2, none⟩) (Nat.le_refl _) _).setCell (p := ⟨w.heap.size, 3, none⟩) (Nat.le_refl _) _)
                  · have HG := Lib.hid (show firstF (usedG ls k) 0 l.uses = firstF (usedG ls k) (i + 1) (l.uses.drop (i + 1)) by rw [hst, hnf, if_neg e0])
                    have e1 : decide (q < 0) = false := by simpa using e0
                    clear hst hnf
                    go_wp2_with (go_at_call 73; with_reducible refine HFs.out.mono ?_; rintro en w1 ⟨rfl, qq⟩; have K1 : Hid (Kept w w.heap.size 28 #[.int .i64 0, .int .i64 0, .int .i64 0, .int .i64 0] w1) := Lib.hid (HK.out.step (qq.below _)))
                    go_roundw
                    case rel => exact ⟨i + 1, by omega, by go_num, K1, HG⟩
                    case measure => simp [intOf]; omega
                · obtain rfl : m = i := by omega
                  have HG := Lib.hid (show firstF (usedF ls) 0 ls = firstF (usedF ls) (k + 1) (ls.drop (k + 1)) by rw [Hst.out, Huf.out, hf.out, firstF_end (by rw [Hm.out]; exact Nat.le_refl _)])
                  have HK := hK
                  clear hkm hWr hK hf
                  subst hQ4
                  go_wp2_with fail
                  go_roundw
                  case rel => exact ⟨k + 1, by omega, by go_num, HK, HG⟩
                  case measure => simp [intOf]; omega
            · obtain rfl : n = k := by omega
              clear hlt
              have F3 := Lib.hid (show firstF (usedF ls) 0 ls = none by rw [hf.out]; exact firstF_end (by rw [Hn.out]; exact Nat.le_refl _))
              have HAF := Lib.hid (found_of F3.out)
              have hWr := Hw.out.trans (hK.out.low.mono Hw.out.size)
              have HLn := Lib.hid (HL.out HAF.out wr hWr)
              have HK := hK
              obtain ⟨wo, hwo⟩ : ∃ wo, wo = wr := ⟨wr, rfl⟩
              subst hwo
              clear hf hK hk hWr
              go_wp2_with (go_at_call 74; refine HLn.out.mono ?_; rintro en w1 ⟨rfl, Zm, hM, hMt⟩; have K1 : Hid (Kept w w.heap.size 28 #[.int .i64 0, .int .i64 0, .int .i64 0, .int .i64 0] w1) := Lib.hid (HK.out.step hM.low); have HM := Lib.hid hM; have HMt := Lib.hid hMt; clear hM hMt)
              have Hgl : Hid (wo.heap.size < w1.heap.size) := by have := HM.out.size; show _ < _; omega
              have HKl : Hid (w.heap.size < wo.heap.size) := HK.out.blk.lt
              have HB1 : Hid (Below w0.heap.size w0 w1) := Lib.hid (Hw.out.trans (K1.out.low.mono Hw.out.size))
              have HZr : Hid (∀ a b, Zm a b = true ↔ Reach (webN ls) a b) := by
                have h := HMt.out
                rw [← show (webN ls).length = n by rw [webN_len]; exact Hn.out] at h
                exact fun a b => h.whole a b
              have HZc : Hid (∀ W, Below w1.heap.size w1 W → ∀ a b, a < n → b < n → W.cell? ⟨wo.heap.size, a, none⟩ = some (.slice (some ⟨wo.heap.size + 1 + a, 0, none⟩) n n) ∧ W.cell? ⟨wo.heap.size + 1 + a, b, none⟩ = some (.bool (Zm a b))) := by
                intro W hW a b ha hb
                refine ⟨?_, ?_⟩
                · rw [hW.cell (p := ⟨wo.heap.size, a, none⟩) (by exact Hgl.out)]; exact HM.out.topc ha (Nat.le_refl _)
                · rw [hW.cell (p := ⟨wo.heap.size + 1 + a, b, none⟩) (by have := HM.out.size; show wo.heap.size + 1 + a < _; omega)]; exact HM.out.cell ha hb
              clear HLn HL HMt
              go_loopw [10, 11] (fun j _ wr => ∃ k : Nat, k ≤ n ∧ j = .int .i64 (k : Int) ∧ Hid (Kept w w.heap.size 28 #[.int .i64 0, .int .i64 0, .int .i64 0, .int .i64 0] wr ∧ Below w1.heap.size w1 wr) ∧ Hid (firstF (ringF ls) 0 ls = firstF (ringF ls) k (ls.drop k))) (fun j _ _ => n - (intOf j).toNat)
              case atStart => exact ⟨0, Nat.zero_le _, rfl, Lib.hid ⟨K1.out, Below.refl _ _⟩, Lib.hid (by rw [List.drop_zero])⟩
              case round =>
                obtain ⟨k, hk, rfl, hK, hf⟩ := hrel
                by_cases hlt : k < n
                · obtain ⟨l, hd⟩ := get_some Hn.out hlt
                  obtain ⟨b, off, x, rfl, hbB, hxl, ⟨v1, v2, v3, v4, v5, v6, rfl, su, _⟩, hx⟩ := Hs.out.at_ hd
                  obtain ⟨m, hm⟩ : ∃ m, l.uses.length = m := ⟨_, rfl⟩
                  obtain ⟨ua, uc, rfl⟩ : ∃ a c, v1 = .slice a m c := by obtain ⟨a, c, h, _⟩ := su.form; exact ⟨a, c, by rw [h, hm]⟩
                  have X2 := Lib.hid (hx 2 _ rfl)
                  have Hm := Lib.hid hm
                  have Su := Lib.hid su
                  have hmc := su.caps
                  have hm63 : m ≤ 9223372036854775807 := by unfold maxLen at hmc; omega
                  have Hfd := Lib.hid (fun (i : Nat) (s : ByteArray) (hi : l.uses[i]? = some s) => HAF.out l (List.mem_iff_getElem?.2 ⟨k, hd⟩) s (List.mem_iff_getElem?.2 ⟨i, hi⟩))
                  have hst := firstF_step (f := ringF ls) hd
                  rw [← hf.out] at hst
                  have Hst := Lib.hid hst
                  have Huf := Lib.hid (show ringF ls k l = firstF (ringG ls k) 0 l.uses from rfl)
                  have HK2 := hK
                  clear hx hxl hd hm su hmc hst hf hK
                  go_wp2_with fail
                  obtain ⟨wp, hwp⟩ : ∃ wp, wp = wr := ⟨wr, rfl⟩
                  subst hwp
                  go_hide hQ6
                  go_loopw [11] (fun j wr => ∃ i : Nat, i ≤ m ∧ j = .int .i64 (i : Int) ∧ Hid (Kept w w.heap.size 28 #[.int .i64 0, .int .i64 0, .int .i64 0, .int .i64 0] wr ∧ Below w1.heap.size w1 wr) ∧ Hid (firstF (ringG ls k) 0 l.uses = firstF (ringG ls k) i (l.uses.drop i))) (fun j _ => m - (intOf j).toNat)
                  case atStart => exact ⟨0, Nat.zero_le _, rfl, HK2, Lib.hid (by rw [List.drop_zero])⟩
                  case round =>
                    obtain ⟨i, hi, rfl, hK, hf⟩ := hrel
                    have hWr := Hw.out.trans (hK.out.1.low.mono Hw.out.size)
                    have x2 : wr.cell? ⟨b, off + k * 8 + 2, none⟩ = some (.slice ua m uc) := (hWr.cell (p := ⟨b, off + k * 8 + 2, none⟩) hbB).trans X2.out
                    by_cases hkm : i < m
                    · obtain ⟨s, hsk⟩ := get_some Hm.out hkm
                      obtain ⟨b2, off2, y, rfl, hb2, hyl, ⟨rfl, _⟩, hy⟩ := Su.out.at_ hsk
                      have y0 : wr.cell? ⟨b2, off2 + i, none⟩ = some (.string s) := (hWr.cell (p := ⟨b2, off2 + i, none⟩) hb2).trans (by have := hy 0 _ rfl; simpa using this)
                      have hst := firstF_step (f := ringG ls k) hsk
                      rw [← hf.out] at hst
                      have HFs := Lib.hid (HF.out s wr hWr)
                      obtain ⟨q, hq⟩ : ∃ q : Nat, findN ls s = (q : Int) := ⟨(findN ls s).toNat, by have := Hfd.out i s hsk; omega⟩
                      have hqn : q < n := by have := findN_lt ls s; have := Hn.out; omega
                      have hnf : ringG ls k i s = if Zm q k = true then some ⟨10 * k + 1, i, 0, 43⟩ else none := by
                        unfold ringG
                        rw [hq, Int.toNat_natCast]
                        by_cases h : Reach (webN ls) q k
                        · rw [if_pos h, if_pos ((HZr.out q k).2 h)]
                        · rw [if_neg h, if_neg (fun e => h ((HZr.out q k).1 e))]
                      rw [hq] at HFs
                      have HK2 := hK
                      clear hsk hy hyl hWr hK hf hq
                      have ARMF := (by exact True.intro : True)
                      rcases hZ : Zm q k with _ | _
                      · have HG := Lib.hid (show firstF (ringG ls k) 0 l.uses = firstF (ringG ls k) (i + 1) (l.uses.drop (i + 1)) by rw [hst, hnf, hZ, if_neg (by simp)])
                        clear hst hnf ARMF
                        go_wp2_with (go_at_call 73; with_reducible refine HFs.out.mono ?_; rintro en w2 ⟨rfl, qq⟩; have K2 : Hid (Kept w w.heap.size 28 #[.int .i64 0, .int .i64 0, .int .i64 0, .int .i64 0] w2 ∧ Below w1.heap.size w1 w2) := Lib.hid ⟨HK2.out.1.step (qq.below _), HK2.out.2.trans (qq.below _)⟩; have c1 := (HZc.out w2 K2.out.2 q k hqn hlt).1; have c2 := (HZc.out w2 K2.out.2 q k hqn hlt).2; rw [hZ] at c2)
                        go_roundw
                        case rel => exact ⟨i + 1, by omega, by go_num, K2, HG⟩
                        case measure => simp [intOf]; omega
                      · have HZ := Lib.hid (show faultN ls = some ⟨10 * k + 1, i, 0, 43⟩ by rw [HFn.out, F1.out]; simp only; rw [F2.out]; simp only; rw [F3.out]; simp only; rw [Hst.out, Huf.out, hst, hnf, if_pos hZ])
                        have HPl := Lib.hid (place_small (n := k) (l := 1) (by omega) (by omega) (by omega))
                        have tokP : True := trivial
                        clear hst hnf ARMF
                        subst hQ6
                        go_wp2_with (first | (go_at_call 73; with_reducible refine HFs.out.mono ?_; rintro en w2 ⟨rfl, qq⟩; have K2 : Hid (Kept w w.heap.size 28 #[.int .i64 0, .int .i64 0, .int .i64 0, .int .i64 0] w2 ∧ Below w1.heap.size w1 w2) := Lib.hid ⟨HK2.out.1.step (qq.below _), HK2.out.2.trans (qq.below _)⟩; have K3 := Lib.hid K2.out.1; have c1 := (HZc.out w2 K2.out.2 q k hqn hlt).1; have c2 := (HZc.out w2 K2.out.2 q k hqn hlt).2; rw [hZ] at c2) | (go_at_call 40; have _t := tokP; refine (r_place _ _ _ _ _ HPl.out _).mono ?_; rintro en wf ⟨rfl, bf⟩; have CF : Hid (Kept w w.heap.size 28 #[.int .i64 0, .int .i64 0, .int .i64 0, .int .i64 0] wf) := Lib.hid (K3.out.step bf); have z0 : wf.cell? ⟨w.heap.size, 0, none⟩ = some (.int .i64 0) := CF.out.blk.cell rfl; have z1 : wf.cell? ⟨w.heap.size, 1, none⟩ = some (.int .i64 0) := CF.out.blk.cell rfl; have z2 : wf.cell? ⟨w.heap.size, 2, none⟩ = some (.int .i64 0) := CF.out.blk.cell rfl; have z3 : wf.cell? ⟨w.heap.size, 3, none⟩ = some (.int .i64 0) := CF.out.blk.cell rfl; have f0 := CF.out.blk.frozen 0; have f1 := CF.out.blk.frozen 1; have f2 := CF.out.blk.frozen 2; have f3 := CF.out.blk.frozen 3; clear tokP _t))
                        have lf := CF.out.blk.lt
                        refine bodyPost_ret (v := .tuple #[.slice none 0 0, .agg #[.int .i64 (10 * (k : Int) + 1), .int .i64 ((i : Int)), .int .i64 (0), .int .i64 (43)]]) (by simp [results, Tryz.results72, go_sem, z0, z1, z2, z3]) rfl ?_
                        unfold OrdPost
                        rw [HZ.out]
                        refine ⟨?_, ?_⟩
                        · show Ending.returned _ = Ending.returned _
                          first | rfl | (congr 4 <;> (first | rfl | (push_cast; rfl) | (push_cast; omega)))
                        · exact ((((CF.out.low.setCell (p := ⟨w.heap.size, 0, none⟩) (Nat.le_refl _) _).setCell (p := ⟨w.heap.size, 1, none⟩) (Nat.le_refl _) _).setCell (p := ⟨w.heap.size, 2, none⟩) (Nat.le_refl _) _).setCell (p := ⟨w.heap.size, 3, none⟩) (Nat.le_refl _) _)
                    · obtain rfl : m = i := by omega
                      have HG := Lib.hid (show firstF (ringF ls) 0 ls = firstF (ringF ls) (k + 1) (ls.drop (k + 1)) by rw [Hst.out, Huf.out, hf.out, firstF_end (by rw [Hm.out]; exact Nat.le_refl _)])
                      have HK2 := hK
                      clear hkm hWr hK hf
                      subst hQ6
                      go_wp2_with fail
                      go_roundw
                      case rel => exact ⟨k + 1, by omega, by go_num, HK2, HG⟩
                      case measure => simp [intOf]; omega
                · obtain rfl : n = k := by omega
                  clear hlt
                  have F4 := Lib.hid (show firstF (ringF ls) 0 ls = none by rw [hf.out]; exact firstF_end (by rw [Hn.out]; exact Nat.le_refl _))
                  have HZ0 := Lib.hid (show faultN ls = none by rw [HFn.out, F1.out]; simp only; rw [F2.out]; simp only; rw [F3.out]; simp only; rw [F4.out])
                  have HAc := Lib.hid (acyc_of F4.out)
                  have HIn := Lib.hid (webN_in ls HAF.out)
                  have HUl : Hid ((webN ls).length = n) := by show _ = _; rw [webN_len]; exact Hn.out
                  obtain ⟨us, hus⟩ : ∃ us, webN ls = us := ⟨_, rfl⟩
                  have K5 := Lib.hid hK.out.1
                  obtain ⟨wp, hwp⟩ : ∃ wp, wp = wr := ⟨wr, rfl⟩
                  subst hwp
                  clear hf hK hk HZr HZc HM HB1 K1 HK Hgl HKl
                  have hmk2 := run_make_row' (P := Tryz.prog) 148 4 (.bool false) 1 Tryz.underlying148 info_bool rfl .i64 .i64 n (by omega) (by omega)
                  have hR0 : Hid ((wp.alloc (.cells (madeCells #[.bool false] n) 4)).rowIs wp.heap.size 4 n (fun j => .bool (decide (j ∈ ([] : List Nat))))) := Lib.hid ((World.rowIs_made wp _ n _).congr (fun j _ => by simp))
                  have hO0 : Hid (Own1 (wp.alloc (.cells (madeCells #[.bool false] n) 4)) (wp.heap.size + 1) 3 1 IsInt (.slice none 0 0) (([] : List Nat).map fun (n : Nat) => (n : Int))) := Lib.hid ⟨[], World.ownsRow_nil _ _ _ _, FlatR.nil_⟩
                  have K6 : Hid (Kept w w.heap.size 28 #[.int .i64 0, .int .i64 0, .int .i64 0, .int .i64 0] (wp.alloc (.cells (madeCells #[.bool false] n) 4))) := Lib.hid (K5.out.alloc _)
                  have hbase : Hid (w.heap.size < wp.heap.size) := K5.out.blk.lt
                  go_wp2_with fail
                  clear hmk2
                  go_loopw [13, 14] (fun rv _ wr => ∃ (row : List Nat) (ra : Option Addr) (rc : Nat), rv = .slice ra row.length rc ∧ row.length ≤ n ∧ Hid (Own1 wr (wp.heap.size + 1) 3 1 IsInt (.slice ra row.length rc) (row.map fun (n : Nat) => (n : Int))) ∧ Hid (wr.rowIs wp.heap.size 4 n (fun j => .bool (decide (j ∈ row)))) ∧ Hid (Kept w w.heap.size 28 #[.int .i64 0, .int .i64 0, .int .i64 0, .int .i64 0] wr) ∧ Hid (rowR us (n - row.length) row = rowN us)) (fun rv _ _ => n - slen rv)
                  case atStart => exact ⟨[], none, 0, rfl, Nat.zero_le _, hO0, hR0, K6, Lib.hid (by show rowR us (n - 0) [] = _; unfold rowN; rw [← hus, HUl.out, Nat.sub_zero])⟩
                  case round =>
                    obtain ⟨row, ra, rc, rfl, hrl, hO, hRI, hK, hT⟩ := hrel
                    obtain ⟨rl, hrln⟩ : ∃ z, row.length = z := ⟨_, rfl⟩
                    rw [hrln] at hrl hO hT ⊢
                    have Hrl := Lib.hid hrln
                    have hrs : slen (.slice ra rl rc) = rl := rfl
                    clear hrln
                    by_cases hl : rl < n
                    · obtain ⟨nx, hnx⟩ := nextN_some (us := us) (by rw [← hus]; exact HAc.out) (by rw [← hus]; intro a b h; rw [HUl.out]; have := HIn.out a b h; rw [Hn.out] at this; exact this) (row := row) (by rw [← hus, HUl.out, Hrl.out]; exact hl)
                      obtain ⟨y1, y2, y3, y4⟩ := nextN_out hnx
                      rw [← hus, HUl.out] at y1
                      have hT2 : Hid (rowR us (n - (rl + 1)) (row ++ [nx]) = rowN us) := by
                        show _ = _
                        rw [← hT.out, show n - rl = (n - (rl + 1)) + 1 by omega, row_more hnx]
                      have Y2 := Lib.hid y2
                      have Y3 := Lib.hid y3
                      have Y4 := Lib.hid y4
                      have HO := hO
                      have HRI := hRI
                      have HK := hK
                      clear hnx y2 y3 y4 hT hO hRI hK
                      go_wp2_with fail
                      obtain ⟨wq, hwq⟩ : ∃ wq, wq = wr := ⟨wr, rfl⟩
                      subst hwq
                      go_hide hQ8
                      go_loopw [14] (fun j wr => ∃ q : Nat, q ≤ nx ∧ j = .int .i64 (q : Int) ∧ Hid (Quiet wq wr)) (fun j _ => nx - (intOf j).toNat)
                      case atStart => exact ⟨0, Nat.zero_le _, rfl, Quiet.refl _⟩
                      case round =>
                        obtain ⟨q, hq, rfl, hqq⟩ := hrel
                        have hqn : q < n := by omega
                        have HRI2 : Hid (wr.rowIs wp.heap.size 4 n (fun j => .bool (decide (j ∈ row)))) := Lib.hid (rowIs_below HRI.out (hqq.out.below _))
                        have c1 : wr.cell? ⟨wp.heap.size, q, none⟩ = some (.bool (decide (q ∈ row))) := HRI2.out.cell hqn
                        have hWr := Hw.out.trans ((HK.out.low.trans ((hqq.out.below wq.heap.size).mono HK.out.low.size)).mono Hw.out.size)
                        by_cases hlt : q < nx
                        · by_cases hin : q ∈ row
                          · rw [decide_eq_true hin] at c1
                            clear hin hWr HRI2
                            go_wp2_with fail
                            go_roundw
                            case rel => exact ⟨q + 1, by omega, by go_num, hqq⟩
                            case measure => simp [intOf]; omega
                          · rw [decide_eq_false hin] at c1
                            have hrd : ∃ u, (webN ls)[q]? = some u ∧ u.all (fun j => decide (j ∈ row)) = false := by
                              have h0 : readyN us row q = false := by rcases Y4.out q hlt with h | h; exact h; exact absurd h hin
                              unfold readyN at h0
                              rw [← hus] at h0
                              obtain ⟨u, hu⟩ := get_some HUl.out hqn
                              rw [hu] at h0
                              exact ⟨u, hu, h0⟩
                            have HC := Lib.hid (HRd.out HAF.out wr hWr wp.heap.size q (fun j => decide (j ∈ row)) hqn HRI2.out false hrd)
                            clear hin hWr HRI2 hrd
                            go_wp2_with (go_at_call 121; refine HC.out.mono ?_; rintro en w2 ⟨rfl, qq⟩)
                            go_roundw
                            case rel => exact ⟨q + 1, by omega, by go_num, Lib.hid (hqq.out.trans qq)⟩
                            case measure => simp [intOf]; omega
                        · obtain rfl : nx = q := by omega
                          rw [decide_eq_false Y2.out] at c1
                          have hrd : ∃ u, (webN ls)[nx]? = some u ∧ u.all (fun j => decide (j ∈ row)) = true := by
                            have h0 := Y3.out
                            unfold readyN at h0
                            rw [← hus] at h0
                            obtain ⟨u, hu⟩ := get_some HUl.out hqn
                            rw [hu] at h0
                            exact ⟨u, hu, h0⟩
                          have HC := Lib.hid (HRd.out HAF.out wr hWr wp.heap.size nx (fun j => decide (j ∈ row)) hqn HRI2.out true hrd)
                          have HOq : Hid (Own1 wr (wp.heap.size + 1) 3 1 IsInt (.slice ra rl rc) (row.map fun (n : Nat) => (n : Int))) := Lib.hid (HO.out.below (hqq.out.below _) (Nat.le_refl _))
                          have HKq : Hid (Kept w w.heap.size 28 #[.int .i64 0, .int .i64 0, .int .i64 0, .int .i64 0] wr) := Lib.hid (HK.out.step (hqq.out.below _))
                          clear hlt hWr hrd
                          subst hQ8
                          go_wp2_with (first | (go_at_call 121; refine HC.out.mono ?_; rintro en w2 ⟨rfl, qq⟩; have R2 : Hid (w2.rowIs wp.heap.size 4 n (fun j => .bool (decide (j ∈ row)))) := Lib.hid (rowIs_below HRI2.out (qq.below _)); have d1 : w2.cell? ⟨wp.heap.size, nx, none⟩ = some (.bool (decide (nx ∈ row))) := R2.out.cell hqn; have d2 := R2.out.frozen nx; have O2 : Hid (Own1 w2 (wp.heap.size + 1) 3 1 IsInt (.slice ra rl rc) (row.map fun (n : Nat) => (n : Int))) := Lib.hid (HOq.out.below (qq.below _) (Nat.le_refl _)); have K2 : Hid (Kept w w.heap.size 28 #[.int .i64 0, .int .i64 0, .int .i64 0, .int .i64 0] w2) := Lib.hid (HKq.out.step (qq.below _)); have lp : wp.heap.size < w2.heap.size := R2.out.lt) | (at_builtin; go_must (refine wpList_append_list rfl (.tmp 157) (.tmp 159) _ rfl (wp.heap.size + 1) _ 3 jI _ 1 8 Tryz.underlying25 I.out.1 I.out.2.1 I.out.2.2.1 I.out.2.2.2 rfl (by omega) (R := IsInt) (l := row.map fun (n : Nat) => (n : Int)) (m := [(nx : Int)]) (.slice ra rl rc) rfl (by exact (O2.out.setFar (p := ⟨wp.heap.size, nx, none⟩) (Nat.lt_succ_self _) _).alloc _) (some ⟨w2.heap.size, 0, none⟩) 1 1 rfl (by exact SlR.new1 (by simp [World.setCell]) rfl ⟨rfl, nat_wf (by omega)⟩) (rl + 1) (by rw [List.length_map, Hrl.out]) IsInt.one (by rw [List.length_map, Hrl.out]; unfold maxLen; omega) (by rw [List.length_map, Hrl.out]; omega) (by simp [World.setCell]; omega) ?_); intro xa xc w9 hown hgr; have O9 : Hid (Own1 w9 (wp.heap.size + 1) 3 1 IsInt (.slice xa (rl + 1) xc) ((row ++ [nx]).map fun (n : Nat) => (n : Int))) := Lib.hid (by rw [List.map_append]; exact hown); have Rs : Hid (((w2.setCell ⟨wp.heap.size, nx, none⟩ (.bool true)).alloc (.cells #[.int .i64 (nx : Int)] 3)).rowIs wp.heap.size 4 n (fun j => .bool (decide (j ∈ row ++ [nx])))) := Lib.hid (((R2.out.set nx (.bool true)).alloc _).congr (fun j _ => by by_cases e : j = nx <;> simp [e])); have hne : ∀ g, (Value.slice ra rl rc).ownBlock = some g → wp.heap.size + 1 ≤ g := fun g hg => (O2.out.block g hg).1; have R9 : Hid (w9.rowIs wp.heap.size 4 n (fun j => .bool (decide (j ∈ row ++ [nx])))) := Lib.hid (Rs.out.of_block (hgr.block _ Rs.out.lt (fun e => by have := hne _ e.symm; omega))); have Ks : Hid (Kept w w.heap.size 28 #[.int .i64 0, .int .i64 0, .int .i64 0, .int .i64 0] ((w2.setCell ⟨wp.heap.size, nx, none⟩ (.bool true)).alloc (.cells #[.int .i64 (nx : Int)] 3))) := Lib.hid (Kept.alloc ⟨K2.out.low.setCell (p := ⟨wp.heap.size, nx, none⟩) (Nat.le_of_lt hbase.out) _, K2.out.blk.far (p := ⟨wp.heap.size, nx, none⟩) (by exact Nat.ne_of_lt hbase.out) _⟩ _); have K9 : Hid (Kept w w.heap.size 28 #[.int .i64 0, .int .i64 0, .int .i64 0, .int .i64 0] w9) := Lib.hid ⟨Ks.out.low.grown hgr Ks.out.low.size (fun g hg => by have := hne g hg; have := hbase.out; omega), Ks.out.blk.grown hgr (fun e => by have := hne _ e.symm; have := hbase.out; omega)⟩; clear hown hgr Rs Ks hne))
                          go_roundw
                          case rel => exact ⟨row ++ [nx], xa, xc, by rw [List.length_append, Hrl.out]; rfl, by rw [List.length_append, Hrl.out]; simp; omega, by rw [List.length_append, Hrl.out]; exact O9, R9, K9, by rw [List.length_append, Hrl.out]; exact hT2⟩
                          case measure => show n - (rl + 1) < n - rl; omega
                    · obtain rfl : n = rl := by omega
                      have hrow : rowN us = row := by rw [← hT.out, Nat.sub_self]; rfl
                      have HRow := Lib.hid hrow
                      have CF := hK
                      have HO := hO
                      have z0 : wr.cell? ⟨w.heap.size, 0, none⟩ = some (.int .i64 0) := CF.out.blk.cell rfl; have z1 : wr.cell? ⟨w.heap.size, 1, none⟩ = some (.int .i64 0) := CF.out.blk.cell rfl; have z2 : wr.cell? ⟨w.heap.size, 2, none⟩ = some (.int .i64 0) := CF.out.blk.cell rfl; have z3 : wr.cell? ⟨w.heap.size, 3, none⟩ = some (.int .i64 0) := CF.out.blk.cell rfl; have f0 := CF.out.blk.frozen 0; have f1 := CF.out.blk.frozen 1; have f2 := CF.out.blk.frozen 2; have f3 := CF.out.blk.frozen 3
                      clear hrow hK hO hT hRI hl
                      go_wp2_with fail
                      have lf := CF.out.blk.lt
                      refine bodyPost_ret (v := .tuple #[.slice ra n rc, .agg #[.int .i64 0, .int .i64 0, .int .i64 0, .int .i64 0]]) (by simp [results, Tryz.results72, go_sem, z0, z1, z2, z3]) rfl ?_
                      unfold OrdPost
                      rw [HZ0.out]
                      refine ⟨⟨ra, rc, by rw [Hn.out], ?_⟩, ((((CF.out.low.setCell (p := ⟨w.heap.size, 0, none⟩) (Nat.le_refl _) _).setCell (p := ⟨w.heap.size, 1, none⟩) (Nat.le_refl _) _).setCell (p := ⟨w.heap.size, 2, none⟩) (Nat.le_refl _) _).setCell (p := ⟨w.heap.size, 3, none⟩) (Nat.le_refl _) _)⟩
                      rw [Hn.out, hus, HRow.out]
                      exact ((((HO.out.setFar (p := ⟨w.heap.size, 0, none⟩) (by have := hbase.out; show w.heap.size < _; omega) _).setFar (p := ⟨w.heap.size, 1, none⟩) (by have := hbase.out; show w.heap.size < _; omega) _).setFar (p := ⟨w.heap.size, 2, none⟩) (by have := hbase.out; show w.heap.size < _; omega) _).setFar (p := ⟨w.heap.size, 3, none⟩) (by have := hbase.out; show w.heap.size < _; omega) _).read (by omega)
end Go.Proofs.YtikplcpghohklaaGreat
