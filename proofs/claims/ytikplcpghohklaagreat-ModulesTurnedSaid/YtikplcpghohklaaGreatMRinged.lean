/- modules: none leans on itself. -/
import Derived.Test.YtikplcpghohklaaGreatMLeans
namespace Go.Proofs.YtikplcpghohklaaGreat
set_option linter.unusedSimpArgs false
set_option linter.unusedVariables false
open Go.RowKit

set_option maxRecDepth 100000 in
set_option maxHeartbeats 8000000 in
theorem m_ringed {ls : List Language} {v : Value} (p bu : Nat) (w w0 : World) (hs : LsR w0 w0.heap.size v ls) (hu : UsesAt w0 bu (webN ls)) (hw : Below w0.heap.size w0 w) (hp0 : w0.cell? ⟨p, 0, none⟩ = some v) (hp2 : w0.cell? ⟨p, 2, none⟩ = some (.map (some bu))) (hle : ls.length ≤ 128) (hfound : AllFound ls) :
    Calls Tryz.prog 61 #[.pointer (some ⟨p, 0, none⟩)] w fun e w' => e = .returned (fltO (firstF (ringF ls) 0 ls)) ∧ Below w.heap.size w w' := by
  obtain ⟨a, c, rfl⟩ : ∃ a c, v = .slice a ls.length c := by obtain ⟨a, c, h, _⟩ := hs.form; exact ⟨a, c, h⟩
  have HLn := Lib.hid (fun (n0 : Nat) (h0 : n0 < (webN ls).length) W (hW : Below w0.heap.size w0 W) => m_leans p bu n0 W w0 hu hW hp2 (by rw [webN_len]; exact hle) h0 (by rw [webN_len]; exact webN_in ls hfound))
  have Hwl := Lib.hid (webN_len ls)
  have Hin := Lib.hid (webN_in ls hfound)
  have Hat := Lib.hid (fun (i : Nat) (l : Language) (h : ls[i]? = some l) => webN_at h)
  obtain ⟨n, hn⟩ : ∃ n, ls.length = n := ⟨_, rfl⟩
  rw [hn] at hp0 hle Hwl Hin
  have Hn := Lib.hid hn
  have Hw := Lib.hid hw
  have Hu := Lib.hid hu
  have HP0 := Lib.hid hp0
  have HP2 := Lib.hid hp2
  have hsz := hw.size
  have hpl : p < w0.heap.size := cell_lt hp0
  have r0 : w.cell? ⟨p, 0, none⟩ = some (.slice a n c) := (hw.cell (p := ⟨p, 0, none⟩) hpl).trans hp0
  have hpw : p < w.heap.size := by omega
  have K0 : Hid (Kept w w.heap.size 28 #[.int .i64 0, .int .i64 0, .int .i64 0, .int .i64 0] (w.alloc (.cells #[.int .i64 0, .int .i64 0, .int .i64 0, .int .i64 0] 28))) := Lib.hid (Kept.new w _ _)
  clear hs hw hu hp0 hp2 hn hfound
  go_enter Tryz.func61, Tryz.ntmps61
  go_wp2_with fail
  go_loopw [3, 4, 5, 11] (fun _ _ _ j wr => ∃ k : Nat, k ≤ n ∧ j = .int .i64 (k : Int) ∧ Hid (Kept w w.heap.size 28 #[.int .i64 0, .int .i64 0, .int .i64 0, .int .i64 0] wr) ∧ Hid (firstF (ringF ls) 0 ls = firstF (ringF ls) k (ls.drop k))) (fun _ _ _ j _ => n - (intOf j).toNat)
  case atStart => exact ⟨0, Nat.zero_le _, rfl, K0, Lib.hid (by rw [List.drop_zero])⟩
  case round =>
    obtain ⟨k, hk, rfl, hK, hf⟩ := hrel
    have hWr := Hw.out.trans (hK.out.low.mono Hw.out.size)
    have r2 : wr.cell? ⟨p, 2, none⟩ = some (.map (some bu)) := (hWr.cell (p := ⟨p, 2, none⟩) hpl).trans HP2.out
    by_cases hlt : k < n
    · obtain ⟨l, hd⟩ := get_some Hn.out hlt
      obtain ⟨va, vc, hrun, hsu⟩ := Hu.out k _ (Hat.out k l hd)
      have hl1 := hrun wr hWr
      have hst := firstF_step (f := ringF ls) hd
      rw [← hf.out] at hst
      have Hst := Lib.hid hst
      have Huf := Lib.hid (show ringF ls k l = firstF (ringG ls k) 0 l.uses from rfl)
      obtain ⟨u, huu⟩ : ∃ u, (l.uses.map fun s => (findN ls s).toNat) = u := ⟨_, rfl⟩
      have Huu := Lib.hid huu
      obtain ⟨m, hm⟩ : ∃ m, l.uses.length = m := ⟨_, rfl⟩
      have Hm := Lib.hid hm
      have hul : u.length = m := by rw [← huu, List.length_map]; exact hm
      have Hul := Lib.hid hul
      have Hue := Lib.hid (show (webN ls)[k]? = some u by rw [← huu]; exact Hat.out k l hd)
      rw [huu, hul] at hl1 hsu
      have hm63 : m ≤ 9223372036854775807 := by have := hsu.caps; unfold maxLen at this; omega
      have Hsu := Lib.hid hsu
      have HK := hK
      clear hd hrun hsu hst huu hm hul hf hK hWr
      go_wp2_with fail
      obtain ⟨wo, hwo⟩ : ∃ wo, wo = wr := ⟨wr, rfl⟩
      subst hwo
      go_hide hQ2
      go_loopw [4, 5, 21] (fun _ _ j wr => ∃ i : Nat, i ≤ m ∧ j = .int .i64 (i : Int) ∧ Hid (Kept w w.heap.size 28 #[.int .i64 0, .int .i64 0, .int .i64 0, .int .i64 0] wr) ∧ Hid (firstF (ringG ls k) 0 l.uses = firstF (ringG ls k) i (l.uses.drop i))) (fun _ _ j _ => m - (intOf j).toNat)
      case atStart => exact ⟨0, Nat.zero_le _, rfl, HK, Lib.hid (by rw [List.drop_zero])⟩
      case round =>
        obtain ⟨i, hi, rfl, hK, hf⟩ := hrel
        have hWr := Hw.out.trans (hK.out.low.mono Hw.out.size)
        by_cases him : i < m
        · obtain ⟨s, hsk⟩ := get_some Hm.out him
          obtain ⟨q, hq⟩ : ∃ q : Nat, (findN ls s).toNat = q := ⟨_, rfl⟩
          have hui : u[i]? = some q := by rw [← Huu.out, List.getElem?_map, hsk]; simp [hq]
          obtain ⟨b3, off3, y3, rfl, hb3, hyl3, ⟨rfl, _⟩, hy3⟩ := Hsu.out.at_ (show (u.map fun (n : Nat) => (n : Int))[i]? = some (q : Int) by rw [List.getElem?_map, hui]; rfl)
          have k0 : wr.cell? ⟨b3, off3 + i, none⟩ = some (.int .i64 (q : Int)) := (hWr.cell (p := ⟨b3, off3 + i, none⟩) hb3).trans (by have := hy3 0 _ rfl; simpa using this)
          have hedge : Edge (webN ls) k q := (edge_at Hue.out q).2 (List.mem_iff_getElem?.2 ⟨i, hui⟩)
          have hqn : q < n := Hin.out _ _ hedge
          have HC := Lib.hid (HLn.out q (by rw [Hwl.out]; exact hqn) wr hWr)
          have hst := firstF_step (f := ringG ls k) hsk
          rw [← hf.out] at hst
          have HK := hK
          have HWr := Lib.hid hWr
          have Hst2 := Lib.hid hst
          have Hedge := Lib.hid hedge
          by_cases hR : Reach (webN ls) q k
          · have hnf : ringG ls k i s = some ⟨10 * k + 1, i, 0, 43⟩ := by unfold ringG; rw [hq, if_pos hR]
            have HF9 : Hid (firstF (ringF ls) 0 ls = some ⟨10 * k + 1, i, 0, 43⟩) := by
              show _ = _
              rw [Hst.out, Huf.out, Hst2.out, hnf]
            have HZ := Lib.hid (show fltO (firstF (ringF ls) 0 ls) = fltR ⟨10 * k + 1, i, 0, 43⟩ by rw [HF9.out]; rfl)
            have HPl := Lib.hid (place_small (n := k) (l := 1) (by omega) (by omega) (by omega))
            have HR := Lib.hid hR
            have tokP : True := trivial
            clear hf hK hWr hst hnf hR hsk hq hui hyl3 hy3 hedge
            subst hQ2
            go_wp2_with (first
              | (go_at_call 32; (with_reducible refine HC.out.mono ?_); rintro el wl ⟨⟨oa, oc, out, rfl, hoo, hmem⟩, bl⟩; have hso := hoo.read (by omega); clear hoo; have hany : (out.map fun (n : Nat) => (n : Int)).any (fun x => decide (x = (k : Int))) = true := (by rw [List.any_eq_true]; exact ⟨(k : Int), map_mem.2 ((hmem k).2 (.inr HR.out)), by simp⟩); have Hany := Lib.hid hany; have KL : Hid (Kept w w.heap.size 28 #[.int .i64 0, .int .i64 0, .int .i64 0, .int .i64 0] wl) := Lib.hid (HK.out.step bl); have HCt := Lib.hid (fun (W : World) (hW : Below wl.heap.size wl W) => contains_int (k : Int) W wl hso hW); clear hany hso hmem bl)
              | (go_at_call 35; (with_reducible refine (HCt.out _ (by first | exact Below.refl _ _ | exact Below.drew (Below.refl _ _) | exact below_drewN (Below.refl _ _) _)).mono ?_); rintro ec wc ⟨rfl, qc⟩; rw [Hany.out]; have KC : Hid (Kept w w.heap.size 28 #[.int .i64 0, .int .i64 0, .int .i64 0, .int .i64 0] wc) := Lib.hid (KL.out.step (qc.below _)); clear qc)
              | (go_at_call 37; have _t := tokP; refine (m_fault _ _ _ _ _ HPl.out _).mono ?_; rintro en wf ⟨rfl, bf⟩; have CF : Hid (Kept w w.heap.size 28 #[.int .i64 0, .int .i64 0, .int .i64 0, .int .i64 0] wf) := Lib.hid (KC.out.step bf); have z0 : wf.cell? ⟨w.heap.size, 0, none⟩ = some (.int .i64 0) := CF.out.blk.cell rfl; have z1 : wf.cell? ⟨w.heap.size, 1, none⟩ = some (.int .i64 0) := CF.out.blk.cell rfl; have z2 : wf.cell? ⟨w.heap.size, 2, none⟩ = some (.int .i64 0) := CF.out.blk.cell rfl; have z3 : wf.cell? ⟨w.heap.size, 3, none⟩ = some (.int .i64 0) := CF.out.blk.cell rfl; have f0 := CF.out.blk.frozen 0; have f1 := CF.out.blk.frozen 1; have f2 := CF.out.blk.frozen 2; have f3 := CF.out.blk.frozen 3; clear tokP _t))
            have lf := CF.out.blk.lt
            refine bodyPost_ret (v := .agg #[.int .i64 (10 * (k : Int) + 1), .int .i64 (i), .int .i64 (0), .int .i64 (43)]) (by simp [results, Tryz.results61, go_sem, z0, z1, z2, z3]) rfl ?_
            refine ⟨?_, ((((CF.out.low.setCell (p := ⟨w.heap.size, 0, none⟩) (Nat.le_refl _) _).setCell (p := ⟨w.heap.size, 1, none⟩) (Nat.le_refl _) _).setCell (p := ⟨w.heap.size, 2, none⟩) (Nat.le_refl _) _).setCell (p := ⟨w.heap.size, 3, none⟩) (Nat.le_refl _) _)⟩
            rw [HZ.out]
            all_goals (show Ending.returned _ = Ending.returned _)
            all_goals first | rfl | (congr 2 <;> (first | rfl | (push_cast; rfl) | (push_cast; omega)))
          · have hnf : ringG ls k i s = none := by unfold ringG; rw [hq, if_neg hR]
            have HG2 := Lib.hid (show firstF (ringG ls k) 0 l.uses = firstF (ringG ls k) (i + 1) (l.uses.drop (i + 1)) by rw [Hst2.out, hnf])
            have hqk : ¬ k = q := by
              rintro rfl
              exact hR (.one hedge)
            have HR := Lib.hid hR
            have Hqk := Lib.hid hqk
            have tokP : True := trivial
            clear hf hK hWr hst hnf hR hsk hq hui hyl3 hy3 hedge hqk
            go_wp2_with (first
              | (go_at_call 32; (with_reducible refine HC.out.mono ?_); rintro el wl ⟨⟨oa, oc, out, rfl, hoo, hmem⟩, bl⟩; have hso := hoo.read (by omega); clear hoo; have hany : (out.map fun (n : Nat) => (n : Int)).any (fun x => decide (x = (k : Int))) = false := (by rw [List.any_eq_false]; rintro x hx; obtain ⟨m, hm, rfl⟩ := List.mem_map.1 hx; have hm2 := (hmem m).1 hm; have hmk : m ≠ k := (by rintro rfl; rcases hm2 with h | h; exact Hqk.out h; exact HR.out h); simp; omega); have Hany := Lib.hid hany; have KL : Hid (Kept w w.heap.size 28 #[.int .i64 0, .int .i64 0, .int .i64 0, .int .i64 0] wl) := Lib.hid (HK.out.step bl); have HCt := Lib.hid (fun (W : World) (hW : Below wl.heap.size wl W) => contains_int (k : Int) W wl hso hW); clear hany hso hmem bl)
              | (go_at_call 35; (with_reducible refine (HCt.out _ (by first | exact Below.refl _ _ | exact Below.drew (Below.refl _ _) | exact below_drewN (Below.refl _ _) _)).mono ?_); rintro ec wc ⟨rfl, qc⟩; rw [Hany.out]; have KC : Hid (Kept w w.heap.size 28 #[.int .i64 0, .int .i64 0, .int .i64 0, .int .i64 0] wc) := Lib.hid (KL.out.step (qc.below _)); clear qc))
            go_roundw
            case rel => exact ⟨i + 1, by omega, by go_num, KC, HG2⟩
            case measure => simp [intOf]; omega
        · obtain rfl : m = i := by omega
          have HG := Lib.hid (show firstF (ringF ls) 0 ls = firstF (ringF ls) (k + 1) (ls.drop (k + 1)) by rw [Hst.out, Huf.out, hf.out, firstF_end (by rw [Hm.out]; exact Nat.le_refl _)])
          have HK := hK
          clear him hWr hK hf
          subst hQ2
          go_wp2_with fail
          go_roundw
          case rel => exact ⟨k + 1, by omega, by go_num, HK, HG⟩
          case measure => simp [intOf]; omega
    · obtain rfl : n = k := by omega
      have HZ := Lib.hid (show fltO (firstF (ringF ls) 0 ls) = fltV 0 0 0 0 by rw [hf.out, firstF_end (by rw [Hn.out]; exact Nat.le_refl _)]; rfl)
      have CF := hK
      have z0 : wr.cell? ⟨w.heap.size, 0, none⟩ = some (.int .i64 0) := CF.out.blk.cell rfl; have z1 : wr.cell? ⟨w.heap.size, 1, none⟩ = some (.int .i64 0) := CF.out.blk.cell rfl; have z2 : wr.cell? ⟨w.heap.size, 2, none⟩ = some (.int .i64 0) := CF.out.blk.cell rfl; have z3 : wr.cell? ⟨w.heap.size, 3, none⟩ = some (.int .i64 0) := CF.out.blk.cell rfl; have f0 := CF.out.blk.frozen 0; have f1 := CF.out.blk.frozen 1; have f2 := CF.out.blk.frozen 2; have f3 := CF.out.blk.frozen 3
      clear hlt hf hK hWr
      go_wp2_with fail
      have lf := CF.out.blk.lt
      refine bodyPost_ret (v := .agg #[.int .i64 (0), .int .i64 (0), .int .i64 (0), .int .i64 (0)]) (by simp [results, Tryz.results61, go_sem, z0, z1, z2, z3]) rfl ?_
      refine ⟨?_, ((((CF.out.low.setCell (p := ⟨w.heap.size, 0, none⟩) (Nat.le_refl _) _).setCell (p := ⟨w.heap.size, 1, none⟩) (Nat.le_refl _) _).setCell (p := ⟨w.heap.size, 2, none⟩) (Nat.le_refl _) _).setCell (p := ⟨w.heap.size, 3, none⟩) (Nat.le_refl _) _)⟩
      rw [HZ.out]
      all_goals (show Ending.returned _ = Ending.returned _)
      all_goals first | rfl | (congr 2 <;> (first | rfl | (push_cast; rfl) | (push_cast; omega)))
end Go.Proofs.YtikplcpghohklaaGreat
