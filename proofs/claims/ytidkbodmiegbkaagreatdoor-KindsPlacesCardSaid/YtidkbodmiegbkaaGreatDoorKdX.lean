/- Chapter 09: the program's node, walked: loops. -/
import Derived.Test.YtidkbodmiegbkaaGreatDoorKdV
namespace Go.Proofs.YtidkbodmiegbkaaGreatDoor
set_option linter.unusedSimpArgs false
set_option linter.unusedVariables false
open Go.RowKit

theorem kindP_bnd {k : Nat} {b1 b2 : Bool} {x y z : Int} (h : k ≠ 7) : kindP k b1 x y z = kindP k b2 x y z := by
  unfold kindP
  rw [if_neg h, if_neg h]
set_option maxRecDepth 100000 in
set_option maxHeartbeats 8000000 in
theorem nodep_loop {l : List ND} {lv : Value} {W0 : World} {C g bm kb fm f k p : Nat} {s : List Nat} {n : Int} {ta tb : Tr} {vs : List (List Nat)} {W : World} {nb nf : Nat} {K : List Int} {F : List (List Nat)} (ih : NodeIsK l lv W0 C g bm kb fm f) (H : NPk l lv W0 C g bm kb fm (f + 1) (.node k s n [ta, tb]) p vs W nb nf K F) (hk1 : 31 ≤ k) (hk2 : k ≤ 34) : Calls Tryz.prog 25 #[.pointer (some ⟨g, 0, none⟩), .int .i64 (p : Int)] W (NodeW W C g bm kb fm lv (f + 1) (.node k s n [ta, tb]) p vs nb nf K F) := by
  obtain ⟨hd, hks⟩ := stands_node H.un.stands
  obtain ⟨la, lc, rfl, _, _⟩ := H.hs.form
  have hpl := (List.getElem?_eq_some_iff.1 hd).1
  obtain ⟨nl, hnl⟩ : ∃ z, l.length = z := ⟨_, rfl⟩
  have hok := H.hok _ (List.mem_iff_getElem?.2 ⟨p, hd⟩)
  rw [hnl] at H hpl ih ⊢
  have hB6 := H.hw.alloc H.hw.size (.cells #[.pointer (some ⟨g, 0, none⟩)] 48)
  obtain ⟨b, off, x, rfl, hbB, hxl, ⟨kv, rfl, hkv⟩, hx⟩ := (H.hs.below hB6).at_ hd
  obtain ⟨ka, kc, rfl, _, _⟩ := hkv.form
  simp only [List.length_map, places_len] at hkv hx
  simp only [List.length_cons, List.length_nil, Nat.zero_add, Nat.reduceAdd] at hkv hx
  have x0 := hx 0 _ rfl
  have x1 := hx 1 _ rfl
  have x2 := hx 2 _ rfl
  have x3 := hx 3 _ rfl
  simp only [Nat.add_zero] at x0
  have p0 : (0 : Int) ≤ (p : Int) := Int.natCast_nonneg _
  have p1 : (p : Int) < (nl : Int) := by omega
  have HH := Lib.hid H
  have HNL := Lib.hid hnl
  have HKV := Lib.hid hkv
  have IH := Lib.hid ih
  have HNM : Hid (NameOk s) := Lib.hid ⟨hok.1, hok.2.1⟩
  have HSH := Lib.hid H.good.1.1
  have hmf : ∀ (fn : Fn) (first cap : Array Value) (w : World), (Instr.makeFunc fn first cap).run Tryz.prog w = .ok (.func fn first cap) w := fun _ _ _ _ => rfl
  clear H hd hkv hx hxl hks hnl ih hok hB6
  go_enter_defers Tryz.func25, Tryz.ntmps25
  go_upto_region 1 with fail
  have BS1 : Hid (Blk (W.alloc (.cells #[.pointer (some ⟨g, 0, none⟩)] 48)) W.heap.size 48 #[.pointer (some ⟨g, 0, none⟩)]) := Lib.hid (Blk.new _ _ _)
  have M1 := Lib.hid (HH.out.ms.alloc (.cells #[.pointer (some ⟨g, 0, none⟩)] 48))
  have N1 : Hid (NK W (W.alloc (.cells #[.pointer (some ⟨g, 0, none⟩)] 48)) C bm kb fm) := Lib.hid (NK.of_below ((Below.refl _ _).alloc (Nat.le_refl _) _) HH.out.size)
  obtain ⟨sb, hsb⟩ : ∃ z, W.heap.size = z := ⟨_, rfl⟩
  generalize hW1 : W.alloc (.cells #[.pointer (some ⟨g, 0, none⟩)] 48) = W1 at *
  rw [hsb] at BS1 ⊢
  clear hW1 hsb
  have d0 : W1.cell? ⟨g, 0, none⟩ = some (.slice (some ⟨b, off, none⟩) nl lc) := M1.out.blk.cell rfl
  have s0 : W1.cell? ⟨sb, 0, none⟩ = some (.pointer (some ⟨g, 0, none⟩)) := BS1.out.cell rfl
  have ls : sb < W1.heap.size := BS1.out.lt
  have lg : g < W1.heap.size := M1.out.lt.1
  go_upto_region 3 with fail
  have BN2 : Hid (Blk (W1.alloc (.cells #[.int .i64 (k : Int), .string (txt s), .int .i64 n, .slice ka 2 kc] 40)) W1.heap.size 40 #[.int .i64 (k : Int), .string (txt s), .int .i64 n, .slice ka 2 kc]) := Lib.hid (Blk.new _ _ _)
  have BS2 := Lib.hid (BS1.out.alloc (.cells #[.int .i64 (k : Int), .string (txt s), .int .i64 n, .slice ka 2 kc] 40))
  have M2 := Lib.hid (M1.out.alloc (.cells #[.int .i64 (k : Int), .string (txt s), .int .i64 n, .slice ka 2 kc] 40))
  have N2 : Hid (NK W (W1.alloc (.cells #[.int .i64 (k : Int), .string (txt s), .int .i64 n, .slice ka 2 kc] 40)) C bm kb fm) := Lib.hid (N1.out.trans (NK.of_below ((Below.refl _ _).alloc (Nat.le_refl _) _) (Nat.le_trans HH.out.size N1.out.bel.size)))
  obtain ⟨bn, hbn⟩ : ∃ z, W1.heap.size = z := ⟨_, rfl⟩
  generalize hW2 : W1.alloc (.cells #[.int .i64 (k : Int), .string (txt s), .int .i64 n, .slice ka 2 kc] 40) = W2 at *
  rw [hbn] at BN2 ⊢
  clear hW2 hbn BS1 M1 N1 d0 s0 ls lg x0 x1 x2 x3
  have d0 : (W2).cell? ⟨g, 0, none⟩ = some (.slice (some ⟨b, off, none⟩) nl lc) := M2.out.blk.cell rfl
  have d1 : (W2).cell? ⟨g, 1, none⟩ = some (.map (some bm)) := M2.out.blk.cell rfl
  have d3 : (W2).cell? ⟨g, 3, none⟩ = some (.map (some fm)) := M2.out.blk.cell rfl
  have s0 : (W2).cell? ⟨sb, 0, none⟩ = some (.pointer (some ⟨g, 0, none⟩)) := BS2.out.cell rfl
  have n0 : (W2).cell? ⟨bn, 0, none⟩ = some (.int .i64 (k : Int)) := BN2.out.cell rfl
  have n1 : (W2).cell? ⟨bn, 1, none⟩ = some (.string (txt s)) := BN2.out.cell rfl
  have n2 : (W2).cell? ⟨bn, 2, none⟩ = some (.int .i64 n) := BN2.out.cell rfl
  have n3 : (W2).cell? ⟨bn, 3, none⟩ = some (.slice ka 2 kc) := BN2.out.cell rfl
  have ls : sb < (W2).heap.size := BS2.out.lt
  have ln : bn < (W2).heap.size := BN2.out.lt
  have lg : g < (W2).heap.size := M2.out.lt.1
  have ek7 : ((k : Int) == 7) = false := by rw [beq_eq_false_iff_ne]; omega
  have hlk : decide (31 ≤ (k : Int) ∧ (k : Int) ≤ 34) = true := by simp; omega
  have LK := Lib.hid (loops_is (k : Int))
  rw [hlk] at LK
  have hdl := deep_one HH.out.deep
  have HDL := Lib.hid hdl
  have hks3 : [ta, tb].length ≤ 3 := by simp
  have NE := Lib.hid (And.intro (And.intro (map_blk_ne M2.out.bnd BS2.out) (And.intro (BS2.out.differ M2.out.kin (by decide)) (map_blk_ne M2.out.fre.is BS2.out))) (And.intro (map_blk_ne M2.out.bnd BN2.out) (And.intro (BN2.out.differ M2.out.kin (by decide)) (map_blk_ne M2.out.fre.is BN2.out))))
  have HK31 := Lib.hid (And.intro hk1 hk2)
  have J2 : Hid (KJ f k s [ta, tb] vs p 0 K K) := Lib.hid (KJ.zero _ _ _ _ _ _ _)
  obtain ⟨qta, hq0⟩ : ∃ q, (placesL [ta, tb] (p + 1))[0]? = some q := ⟨_, rfl⟩
  obtain ⟨qtb, hq1⟩ : ∃ q, (placesL [ta, tb] (p + 1))[1]? = some q := ⟨_, rfl⟩
  obtain ⟨kbk, ko, rfl, hka⟩ := kid_readK HKV.out hq0
  have HQ0 := Lib.hid hq0
  have HQ1 := Lib.hid hq1
  have HV0 : Hid (vsK k s vs 0 = vs) := Lib.hid (by unfold vsK; rw [if_neg (by omega)])
  have HV1 : Hid (vsK k s vs 1 = vs ++ [s]) := Lib.hid (by unfold vsK; rw [if_pos ⟨rfl, hk1, hk2⟩])
  have hkb := fun w hb => rkid_cell HKV.out hq1 (w := w) hb
  have HKA := Lib.hid hka
  have HKB := Lib.hid hkb
  have xa := hka W2 (HH.out.hw.trans (N2.out.bel.mono HH.out.hC))
  simp only [Nat.add_zero] at xa
  have P0 := Lib.hid (NPk.kid HH.out (j := 0) rfl hq0 N2.out HV0.out.symm M2.out rfl (by simp [sizeL]) (by simp [sizeL]))
  have HFL : Hid (∀ w0 w1, wR f ta vs qta = w0 → wR f tb (vs ++ [s]) qtb = w1 → fstW f k s [ta, tb] vs p [ta, tb].length = if w0 < 0 then w1 else w0) := Lib.hid (fun w0 w1 h0 h1 => by
    have e0 : kidW f k s [ta, tb] vs p 0 = w0 := by unfold kidW; rw [show ([ta, tb] : List Tr)[0]? = some ta from rfl, hq0]; simp only [HV0.out]; exact h0
    have e1 : kidW f k s [ta, tb] vs p 1 = w1 := by unfold kidW; rw [show ([ta, tb] : List Tr)[1]? = some tb from rfl, hq1]; simp only [HV1.out]; exact h1
    have e2 : fstW f k s [ta, tb] vs p 2 = if kidW f k s [ta, tb] vs p 0 < 0 then kidW f k s [ta, tb] vs p 1 else kidW f k s [ta, tb] vs p 0 := rfl
    show fstW f k s [ta, tb] vs p 2 = _
    rw [e2, e0, e1])
  obtain ⟨w0, hw0⟩ : ∃ z, wR f ta vs qta = z := ⟨_, rfl⟩
  obtain ⟨w1, hw1⟩ : ∃ z, wR f tb (vs ++ [s]) qtb = z := ⟨_, rfl⟩
  have HW0 := Lib.hid hw0
  have HW1 := Lib.hid hw1
  have FR : Hid (frR (f + 1) (.node k s n [ta, tb]) vs F = frR f tb (vs ++ [s]) (frR f ta vs F)) := Lib.hid (by
    rw [frR_succ, if_neg (by omega)]
    show kidF f k s [ta, tb] vs (kidF f k s [ta, tb] vs F 0) 1 = _
    unfold kidF
    simp only [List.getElem?_cons_zero, List.getElem?_cons_succ, HV0.out, HV1.out])
  have HSZ : Hid ((Tr.node k s n [ta, tb]).size = 1 + (ta.size + (tb.size + 0))) := Lib.hid (by simp only [Tr.size, sizeL])
  clear hlk hdl hq0 hq1 hka hkb hw0 hw1 hk1 hk2
  have tokA : True := trivial
  have tokB : True := trivial
  have tokL : True := trivial
  go_wp2_with fail
  refine wp_loop_rounds 3 ?_
  rw [rounds_succ]
  go_wp2_with (first
    | (have _t := tokA; go_at_call 25; go_must (refine (IH.out ta qta _ W2 _ _ _ _ P0.out).mono ?_); clear tokA _t
       rintro e w4 ⟨rfl, K4, hm, hkp, hnk⟩
       go_must (have M4 := Lib.hid hm)
       go_must (have J0 := Lib.hid (KJ.step (j := 0) HDL.out J2.out rfl HQ0.out (by rw [HV0.out]; exact hkp)))
       go_must (have N4 := Lib.hid (N2.out.trans hnk))
       go_must (have BS4 := Lib.hid (hnk.blk BS2.out NE.out.1.1 NE.out.1.2.1 NE.out.1.2.2))
       go_must (have BN4 := Lib.hid (hnk.blk BN2.out NE.out.2.1 NE.out.2.2.1 NE.out.2.2.2))
       rw [HW0.out]; clear hm hkp hnk)
    | fail)
  have hcz := cnt_le (vs := vs) (s := s)
  have hcm := cnt_more vs s
  obtain ⟨cv, hcv⟩ : ∃ z, cntV vs s = z := ⟨_, rfl⟩
  rw [hcv] at hcz hcm
  have HCV := Lib.hid hcv
  have HCM := Lib.hid hcm
  obtain ⟨c0, c1⟩ := hcz
  have c2 : cv ≤ 1000 := by have := HH.out.vl; omega
  clear d0 d1 d3 s0 n0 n1 n2 n3 ls ln lg
  have d0 : (w4).cell? ⟨g, 0, none⟩ = some (.slice (some ⟨b, off, none⟩) nl lc) := M4.out.blk.cell rfl
  have d1 : (w4).cell? ⟨g, 1, none⟩ = some (.map (some bm)) := M4.out.blk.cell rfl
  have d3 : (w4).cell? ⟨g, 3, none⟩ = some (.map (some fm)) := M4.out.blk.cell rfl
  have s0 : (w4).cell? ⟨sb, 0, none⟩ = some (.pointer (some ⟨g, 0, none⟩)) := BS4.out.cell rfl
  have n0 : (w4).cell? ⟨bn, 0, none⟩ = some (.int .i64 (k : Int)) := BN4.out.cell rfl
  have n1 : (w4).cell? ⟨bn, 1, none⟩ = some (.string (txt s)) := BN4.out.cell rfl
  have n2 : (w4).cell? ⟨bn, 2, none⟩ = some (.int .i64 n) := BN4.out.cell rfl
  have n3 : (w4).cell? ⟨bn, 3, none⟩ = some (.slice (some ⟨kbk, ko, none⟩) 2 kc) := BN4.out.cell rfl
  have ls : sb < (w4).heap.size := BS4.out.lt
  have ln : bn < (w4).heap.size := BN4.out.lt
  have lg : g < (w4).heap.size := M4.out.lt.1
  have xb := HKB.out w4 (HH.out.hw.trans (N4.out.bel.mono HH.out.hC))
  have hlk4 := M4.out.bnd.at_
  clear hcv hcm c1 xa M2 N2 BS2 BN2
  rw [rounds_succ]
  go_upto_region 7 with (first
    | (have _t := tokL; go_at_call 36; go_must (refine (LK.out _).mono ?_); clear tokL _t; rintro e w' ⟨rfl, rfl⟩)
    | fail)
  go_still_tail 6, (by kernel_rfl)
  change wpList _ _ _ _ _ w4.drew
  have M5 := Lib.hid M4.out.drew
  have N5 : Hid (NK W w4.drew C bm kb fm) := Lib.hid (N4.out.trans (NK.of_below (Below.refl _ _).drew (Nat.le_trans HH.out.size N4.out.bel.size)))
  have BS5 : Hid (Blk w4.drew sb 48 #[.pointer (some ⟨g, 0, none⟩)]) := Lib.hid (Blk.drwN' BS4.out 1)
  have BN5 : Hid (Blk w4.drew bn 40 #[.int .i64 (k : Int), .string (txt s), .int .i64 n, .slice (some ⟨kbk, ko, none⟩) 2 kc]) := Lib.hid (Blk.drwN' BN4.out 1)
  generalize w4.drew = w5 at *
  have nb5 : nb + 2 * sizeL (([ta, tb] : List Tr).take 0) + 2 * ta.size ≤ 100000 := by have := HH.out.nbl; have := HSZ.out; simp only [List.take_zero, sizeL]; omega
  go_upto_region 9 with (first
    | (at_lookup; go_must (refine wpList_look rfl _ _ rfl M5.out.bnd.at_ HNM.out (by rfl) (by rfl) ?_); rw [HCV.out])
    | (at_mapUpdate; go_must (refine wpList_put rfl _ _ _ rfl M5.out.bnd HNM.out (by have := HH.out.nbl; have := HSZ.out; unfold maxLen; omega) (cv + 1) (by omega) (wf47 (by omega) (by omega)) (by rfl) (by rfl) (by rfl) ?_)
       intro w6 hm6 hg6
       go_must (have M6 : Hid (KSt w6 g bm kb fm (nb + 2 * ta.size + 1) (nf + ta.size) (.slice (some ⟨b, off, none⟩) nl lc) K4 (vs ++ [s]) (frR f ta vs F)) := Lib.hid (M5.out.bound hg6 (hm6.same (fun x hx => HCM.out x))))
       go_must (have N6 : Hid (NK W w6 C bm kb fm) := Lib.hid (N5.out.trans (NK.of_grown hg6 (.inl rfl) HH.out.cb (Nat.le_trans HH.out.size N5.out.bel.size))))
       go_must (have BS6 := Lib.hid (BS5.out.grown hg6 (fun e => by injection e with e; exact NE.out.1.1 e)))
       go_must (have BN6 := Lib.hid (BN5.out.grown hg6 (fun e => by injection e with e; exact NE.out.2.1 e)))
       clear hm6 hg6)
    | fail)
  clear d0 d1 d3 s0 n0 n1 n2 n3 ls ln lg
  have d0 : (w6).cell? ⟨g, 0, none⟩ = some (.slice (some ⟨b, off, none⟩) nl lc) := M6.out.blk.cell rfl
  have d1 : (w6).cell? ⟨g, 1, none⟩ = some (.map (some bm)) := M6.out.blk.cell rfl
  have d3 : (w6).cell? ⟨g, 3, none⟩ = some (.map (some fm)) := M6.out.blk.cell rfl
  have s0 : (w6).cell? ⟨sb, 0, none⟩ = some (.pointer (some ⟨g, 0, none⟩)) := BS6.out.cell rfl
  have n0 : (w6).cell? ⟨bn, 0, none⟩ = some (.int .i64 (k : Int)) := BN6.out.cell rfl
  have n1 : (w6).cell? ⟨bn, 1, none⟩ = some (.string (txt s)) := BN6.out.cell rfl
  have n2 : (w6).cell? ⟨bn, 2, none⟩ = some (.int .i64 n) := BN6.out.cell rfl
  have n3 : (w6).cell? ⟨bn, 3, none⟩ = some (.slice (some ⟨kbk, ko, none⟩) 2 kc) := BN6.out.cell rfl
  have ls : sb < (w6).heap.size := BS6.out.lt
  have ln : bn < (w6).heap.size := BN6.out.lt
  have lg : g < (w6).heap.size := M6.out.lt.1
  have P1 := Lib.hid (NPk.kid HH.out (j := 1) rfl HQ1.out N6.out HV1.out.symm M6.out (by rw [J0.out.len]) (by simp [sizeL]) (by simp [sizeL]))
  clear hlk4 xb M4 N4 BS4 BN4 M5 N5 BS5 BN5
  by_cases hw0 : w0 < 0
  · have ew0 : decide (w0 < 0) = true := by simp; omega
    have HFW : Hid (fstW f k s [ta, tb] vs p ([ta, tb] : List Tr).length = w1) := Lib.hid (by rw [HFL.out w0 w1 HW0.out HW1.out, if_pos hw0])
    clear hw0
    go_wp2_with (first
      | (have _t := tokB; go_at_call 25; go_must (refine (IH.out tb qtb _ w6 _ _ _ _ P1.out).mono ?_); clear tokB _t
         rintro e w7 ⟨rfl, K1, hm, hkp, hnk⟩
         go_must (have M7 := Lib.hid hm)
         go_must (have J1 := Lib.hid (KJ.step (j := 1) HDL.out J0.out rfl HQ1.out (by rw [HV1.out]; exact hkp)))
         go_must (have N7 := Lib.hid (N6.out.trans hnk))
         go_must (have BS7 := Lib.hid (hnk.blk BS6.out NE.out.1.1 NE.out.1.2.1 NE.out.1.2.2))
         go_must (have BN7 := Lib.hid (hnk.blk BN6.out NE.out.2.1 NE.out.2.2.1 NE.out.2.2.2))
         rw [HW1.out]; clear hm hkp hnk)
      | fail)
    clear d0 d1 d3 s0 n0 n1 n2 n3 ls ln lg
    have d0 : (w7).cell? ⟨g, 0, none⟩ = some (.slice (some ⟨b, off, none⟩) nl lc) := M7.out.blk.cell rfl
    have d1 : (w7).cell? ⟨g, 1, none⟩ = some (.map (some bm)) := M7.out.blk.cell rfl
    have d3 : (w7).cell? ⟨g, 3, none⟩ = some (.map (some fm)) := M7.out.blk.cell rfl
    have s0 : (w7).cell? ⟨sb, 0, none⟩ = some (.pointer (some ⟨g, 0, none⟩)) := BS7.out.cell rfl
    have n0 : (w7).cell? ⟨bn, 0, none⟩ = some (.int .i64 (k : Int)) := BN7.out.cell rfl
    have n1 : (w7).cell? ⟨bn, 1, none⟩ = some (.string (txt s)) := BN7.out.cell rfl
    have n2 : (w7).cell? ⟨bn, 2, none⟩ = some (.int .i64 n) := BN7.out.cell rfl
    have n3 : (w7).cell? ⟨bn, 3, none⟩ = some (.slice (some ⟨kbk, ko, none⟩) 2 kc) := BN7.out.cell rfl
    have ls : sb < (w7).heap.size := BS7.out.lt
    have ln : bn < (w7).heap.size := BN7.out.lt
    have lg : g < (w7).heap.size := M7.out.lt.1
    rw [rounds_succ]
    go_upto_region 13 with fail
    go_quiet (fail)
    obtain ⟨F1, hF1⟩ : ∃ z, frR f tb (vs ++ [s]) (frR f ta vs F) = z := ⟨_, rfl⟩
    have HFR : Hid (frR (f + 1) (.node k s n [ta, tb]) vs F = F1) := Lib.hid (by rw [FR.out, hF1])
    have J3 : Hid (KJ f k s [ta, tb] vs p ([ta, tb] : List Tr).length K K1) := Lib.hid J1.out
    have hM7 := M7.out
    rw [hF1] at hM7
    have M8 := Lib.hid (hM7.drewN nq)
    have N8 : Hid (NK W (w7.drewN nq) C bm kb fm) := Lib.hid (N7.out.trans (NK.of_below (below_drewN (Below.refl _ _) nq) (Nat.le_trans HH.out.size N7.out.bel.size)))
    have BS8 := Lib.hid (Blk.drwN' BS7.out nq)
    have BN8 := Lib.hid (Blk.drwN' BN7.out nq)
    generalize w7.drewN nq = w8 at *
    clear d0 d1 d3 s0 n0 n1 n2 n3 ls ln lg
    clear M7 N7 BS7 BN7 hF1 hM7
    have d0 : (w8).cell? ⟨g, 0, none⟩ = some (.slice (some ⟨b, off, none⟩) nl lc) := M8.out.blk.cell rfl
    have d1 : (w8).cell? ⟨g, 1, none⟩ = some (.map (some bm)) := M8.out.blk.cell rfl
    have d3 : (w8).cell? ⟨g, 3, none⟩ = some (.map (some fm)) := M8.out.blk.cell rfl
    have s0 : (w8).cell? ⟨sb, 0, none⟩ = some (.pointer (some ⟨g, 0, none⟩)) := BS8.out.cell rfl
    have n0 : (w8).cell? ⟨bn, 0, none⟩ = some (.int .i64 (k : Int)) := BN8.out.cell rfl
    have n1 : (w8).cell? ⟨bn, 1, none⟩ = some (.string (txt s)) := BN8.out.cell rfl
    have n2 : (w8).cell? ⟨bn, 2, none⟩ = some (.int .i64 n) := BN8.out.cell rfl
    have n3 : (w8).cell? ⟨bn, 3, none⟩ = some (.slice (some ⟨kbk, ko, none⟩) 2 kc) := BN8.out.cell rfl
    have ls : sb < (w8).heap.size := BS8.out.lt
    have ln : bn < (w8).heap.size := BN8.out.lt
    have lg : g < (w8).heap.size := M8.out.lt.1
    by_cases hw0 : 0 ≤ w1
    · have ew : decide (0 ≤ w1) = true := by simp; omega
      have HW0 := Lib.hid hw0
      clear hw0
      go_wp2_with fail
      show Leaves Tryz.prog Tryz.f25 _ _ _ _ _
      refine leaves_cons (f := 37) (args := #[.pointer (some ⟨sb, 0, none⟩), .pointer (some ⟨bn, 0, none⟩)]) (by simp) (by simp [go_sem]) ?_
      refine (undo_d (C := C) M8.out HNM.out BS8.out BN8.out (by have := HH.out.vl; omega) (by have := HH.out.nbl; have := HSZ.out; (try simp only [sizeL]); omega) HH.out.cb (Nat.le_trans HH.out.size N8.out.bel.size)).mono ?_
      rintro e u' w9 ⟨rfl, rfl, hm9, hn9⟩
      show Leaves Tryz.prog Tryz.f25 _ _ _ _ _
      refine leaves_nil (results_tmp rfl _ _ _) ?_
      refine ⟨by rw [wR_succ, HFW.out, if_pos HW0.out]; try rfl, K1, ?_, KJ.wrong J3.out (by rw [HFW.out]; exact HW0.out), N8.out.trans hn9⟩
      rw [HFR.out, HSZ.out]
      exact hm9.mono (by (try simp only [sizeL]); omega) (by (try simp only [sizeL]); omega)
    · have ew : decide (0 ≤ w1) = false := by simp; omega
      have hlen := J3.out.len
      have hkl := HH.out.kl
      rw [HNL.out] at hkl
      obtain ⟨nK, hnK⟩ : ∃ z, K1.length = z := ⟨_, rfl⟩
      have d2 : w8.cell? ⟨g, 2, none⟩ = some (.slice (some ⟨kb, 0, none⟩) nK nK) := by rw [← hnK]; exact M8.out.blk.cell rfl
      have pK : (p : Int) < (nK : Int) := by omega
      have pK' : p < K1.length := by omega
      obtain ⟨u0, hu0⟩ : ∃ u, K1[p]? = some u := ⟨_, List.getElem?_eq_getElem pK'⟩
      have y0 := M8.out.cell hu0
      have yf := M8.out.kin.frozen p
      have hwneg : fstW f k s ([ta, tb] : List Tr) vs p (([ta, tb] : List Tr)).length < 0 := by rw [HFW.out]; omega
      have hkr := kR_prog HSH.out HH.out.deep hwneg
      obtain ⟨kr, hkrr⟩ : ∃ z, kR (f + 1) (.node k s n ([ta, tb] : List Tr)) vs = z := ⟨_, rfl⟩
      rw [hkrr] at hkr
      have hk34 : 1 ≤ k ∧ k ≤ 34 := by rcases shape_cases HSH.out with ⟨_, h⟩ | ⟨_, _, h⟩ | ⟨_, _, _, h⟩ | ⟨_, _, _, _, h⟩ <;> omega
      have htk4 : ∀ w', Below w8.heap.size w8 w' → TakesB w' := fun w' hb => by
        obtain ⟨t0, fr0, e0⟩ := HH.out.tk
        have h0 : 0 < W0.heap.size := by rcases Nat.lt_or_ge 0 W0.heap.size with h | h; exact h; rw [Array.getElem?_eq_none h] at e0; cases e0
        exact TakesB.block ⟨t0, fr0, e0⟩ ((HH.out.hw.trans ((N8.out.bel.mono HH.out.hC).trans (hb.mono (by have := HH.out.hw.size; have := N8.out.bel.size; omega)))).block 0 h0)
      have KC : Hid (∀ w', Below w8.heap.size w8 w' → Calls Tryz.prog 38 #[.pointer (some ⟨g, 0, none⟩), .agg #[.int .i64 (k : Int), .string (txt s), .int .i64 n, .slice (some ⟨kbk, ko, none⟩) 2 kc]] w' fun e w'' => e = .returned (.int .i64 kr) ∧ Below w'.heap.size w' w'') := Lib.hid (fun w' hb => by
        have hkvw : SlR w' w'.heap.size 1 IsI (.slice (some ⟨kbk, ko, none⟩) 2 kc) ((placesL ([ta, tb] : List Tr) (p + 1)).map fun n : Nat => (n : Int)) := ((HKV.out.below (HH.out.hw.trans (N8.out.bel.mono HH.out.hC))).below (hb.mono (by have := HH.out.hw.size; have := N8.out.bel.size; omega))).more (by have := HH.out.hw.size; have := N8.out.bel.size; have := hb.size; omega)
        have := kindp_any (k := k) (s := s) (n := n) (nk := 2) hk34 (M8.out.below hb) (htk4 w' hb) HNM.out hkvw (by rw [places_len]; try rfl) hks3 (kidK f k s ([ta, tb] : List Tr) vs) (fun i q hq => J3.out.kid HDL.out hwneg hq) (fun i hi => by unfold kidK; rw [List.getElem?_eq_none hi])
        rw [kindP_bnd (b2 := decide (s ∈ vs)) (by have := HK31.out; omega)] at this
        rw [← hkr] at this
        exact this)
      have HU0 := Lib.hid hu0
      have HKR := Lib.hid hkrr
      have HNK := Lib.hid hnK
      have HWN := Lib.hid hwneg
      have HPK := Lib.hid pK'
      clear hw0 hlen hkl hnK hu0 hwneg hkr hkrr htk4 hk34 pK'
      by_cases hk0 : kr = 0
      all_goals
        first | have ek : (kr == 0) = true := by (rw [hk0]; rfl) | have ek : (kr == 0) = false := by (simpa using hk0)
        have HK0 := Lib.hid hk0
        clear hk0
        have tokK : True := trivial
        go_upto_region 17 with fail
        refine wp_np ?_
        go_region_law (first
          | (have _t := tokK; go_simp; go_at_call 38; go_must (refine (KC.out _ ((Below.refl w8.heap.size w8).drew)).mono ?_); clear tokK _t
             rintro e w5 ⟨rfl, hb⟩
             go_must (have hb2 : Below w8.heap.size w8 w5 := ((Below.refl w8.heap.size w8).drew).trans hb)
             go_must (have M5 := Lib.hid (M8.out.below hb2))
             go_must (have N5 : Hid (NK W w5 C bm kb fm) := Lib.hid (N8.out.trans (NK.of_below hb2 (Nat.le_trans HH.out.size N8.out.bel.size))))
             go_must (have BS5 := Lib.hid (BS8.out.below hb2 BS8.out.lt))
             go_must (have BN5 := Lib.hid (BN8.out.below hb2 BN8.out.lt))
             go_must (have e0 : w5.cell? ⟨g, 2, none⟩ = some (.slice (some ⟨kb, 0, none⟩) nK nK) := by rw [← HNK.out]; exact M5.out.blk.cell rfl)
             go_must (have e1 : w5.cell? ⟨kb, p, none⟩ = some (.int .i64 u0) := M5.out.cell HU0.out)
             go_must (have e2 : w5.frozen? ⟨kb, p, none⟩ = false := M5.out.kin.frozen p)
             go_must (have e3 : w5.cell? ⟨sb, 0, none⟩ = some (.pointer (some ⟨g, 0, none⟩)) := BS5.out.cell rfl)
             clear hb hb2)
          | fail)
        all_goals
          generalize hW6 : World.setCell _ _ _ = W6
          have M6 : Hid (KSt W6 g bm kb fm (nb + 2 * ta.size + 1 + 2 * tb.size) (nf + ta.size + tb.size) (.slice (some ⟨b, off, none⟩) nl lc) (K1.set p kr) (vs ++ [s]) F1) := Lib.hid (by rw [← hW6]; exact M5.out.kind p kr)
          have N6 : Hid (NK W W6 C bm kb fm) := Lib.hid (N5.out.trans (by rw [← hW6]; exact NK.of_set p _ HH.out.ck))
          have g0 : W6.cell? ⟨g, 2, none⟩ = some (.slice (some ⟨kb, 0, none⟩) nK nK) := by rw [← HNK.out]; have := M6.out.blk.cell (i := 2) rfl; rwa [List.length_set] at this
          have g1 : W6.cell? ⟨kb, p, none⟩ = some (.int .i64 kr) := M6.out.cell (List.getElem?_set_self HPK.out)
          have g2 : W6.cell? ⟨sb, 0, none⟩ = some (.pointer (some ⟨g, 0, none⟩)) := by
            rw [← hW6]
            exact (BS5.out.far (p := ⟨kb, p, none⟩) NE.out.1.2.1 _).cell rfl
          have BS6 : Hid (Blk W6 sb 48 #[.pointer (some ⟨g, 0, none⟩)]) := Lib.hid (by rw [← hW6]; exact BS5.out.far (p := ⟨kb, p, none⟩) NE.out.1.2.1 _)
          have BN6 : Hid (Blk W6 bn 40 #[.int .i64 (k : Int), .string (txt s), .int .i64 n, .slice (some ⟨kbk, ko, none⟩) 2 kc]) := Lib.hid (by rw [← hW6]; exact BN5.out.far (p := ⟨kb, p, none⟩) NE.out.2.2.1 _)
          clear hW6
          simp only [noP]
          go_wp2_with fail
          show Leaves Tryz.prog Tryz.f25 _ _ _ _ _
          refine leaves_cons (f := 37) (args := #[.pointer (some ⟨sb, 0, none⟩), .pointer (some ⟨bn, 0, none⟩)]) (by simp) (by simp [go_sem]) ?_
          refine (undo_d (C := C) M6.out HNM.out BS6.out BN6.out (by have := HH.out.vl; omega) (by have := HH.out.nbl; have := HSZ.out; (try simp only [sizeL]); omega) HH.out.cb (Nat.le_trans HH.out.size N6.out.bel.size)).mono ?_
          rintro e u' w9 ⟨rfl, rfl, hm9, hn9⟩
          show Leaves Tryz.prog Tryz.f25 _ _ _ _ _
          refine leaves_nil (results_tmp rfl _ _ _) ?_
          refine ⟨?_, K1.set p kr, ?_, by rw [← HKR.out]; exact KJ.right J3.out (by rw [← J3.out.len]; exact HPK.out) HWN.out, N6.out.trans hn9⟩
          · rw [wR_succ, HKR.out, if_neg (by have := HWN.out; omega)]
            first | (rw [if_pos HK0.out]; try rfl) | (rw [if_neg HK0.out]; try rfl)
          · rw [HFR.out, HSZ.out]
            exact hm9.mono (by (try simp only [sizeL]); omega) (by (try simp only [sizeL]); omega)

  · have ew0 : decide (w0 < 0) = false := by simp; omega
    have HFW : Hid (fstW f k s [ta, tb] vs p ([ta, tb] : List Tr).length = w0) := Lib.hid (by rw [HFL.out w0 w1 HW0.out HW1.out, if_neg hw0])
    clear hw0
    go_wp2_with (first
      | (have _t := tokB; go_at_call 25; go_must (refine (IH.out tb qtb _ w6 _ _ _ _ P1.out).mono ?_); clear tokB _t
         rintro e w7 ⟨rfl, K1, hm, hkp, hnk⟩
         go_must (have M7 := Lib.hid hm)
         go_must (have J1 := Lib.hid (KJ.step (j := 1) HDL.out J0.out rfl HQ1.out (by rw [HV1.out]; exact hkp)))
         go_must (have N7 := Lib.hid (N6.out.trans hnk))
         go_must (have BS7 := Lib.hid (hnk.blk BS6.out NE.out.1.1 NE.out.1.2.1 NE.out.1.2.2))
         go_must (have BN7 := Lib.hid (hnk.blk BN6.out NE.out.2.1 NE.out.2.2.1 NE.out.2.2.2))
         rw [HW1.out]; clear hm hkp hnk)
      | fail)
    clear d0 d1 d3 s0 n0 n1 n2 n3 ls ln lg
    have d0 : (w7).cell? ⟨g, 0, none⟩ = some (.slice (some ⟨b, off, none⟩) nl lc) := M7.out.blk.cell rfl
    have d1 : (w7).cell? ⟨g, 1, none⟩ = some (.map (some bm)) := M7.out.blk.cell rfl
    have d3 : (w7).cell? ⟨g, 3, none⟩ = some (.map (some fm)) := M7.out.blk.cell rfl
    have s0 : (w7).cell? ⟨sb, 0, none⟩ = some (.pointer (some ⟨g, 0, none⟩)) := BS7.out.cell rfl
    have n0 : (w7).cell? ⟨bn, 0, none⟩ = some (.int .i64 (k : Int)) := BN7.out.cell rfl
    have n1 : (w7).cell? ⟨bn, 1, none⟩ = some (.string (txt s)) := BN7.out.cell rfl
    have n2 : (w7).cell? ⟨bn, 2, none⟩ = some (.int .i64 n) := BN7.out.cell rfl
    have n3 : (w7).cell? ⟨bn, 3, none⟩ = some (.slice (some ⟨kbk, ko, none⟩) 2 kc) := BN7.out.cell rfl
    have ls : sb < (w7).heap.size := BS7.out.lt
    have ln : bn < (w7).heap.size := BN7.out.lt
    have lg : g < (w7).heap.size := M7.out.lt.1
    rw [rounds_succ]
    go_upto_region 13 with fail
    go_quiet (fail)
    obtain ⟨F1, hF1⟩ : ∃ z, frR f tb (vs ++ [s]) (frR f ta vs F) = z := ⟨_, rfl⟩
    have HFR : Hid (frR (f + 1) (.node k s n [ta, tb]) vs F = F1) := Lib.hid (by rw [FR.out, hF1])
    have J3 : Hid (KJ f k s [ta, tb] vs p ([ta, tb] : List Tr).length K K1) := Lib.hid J1.out
    have hM7 := M7.out
    rw [hF1] at hM7
    have M8 := Lib.hid (hM7.drewN nq)
    have N8 : Hid (NK W (w7.drewN nq) C bm kb fm) := Lib.hid (N7.out.trans (NK.of_below (below_drewN (Below.refl _ _) nq) (Nat.le_trans HH.out.size N7.out.bel.size)))
    have BS8 := Lib.hid (Blk.drwN' BS7.out nq)
    have BN8 := Lib.hid (Blk.drwN' BN7.out nq)
    generalize w7.drewN nq = w8 at *
    clear d0 d1 d3 s0 n0 n1 n2 n3 ls ln lg
    clear M7 N7 BS7 BN7 hF1 hM7
    have d0 : (w8).cell? ⟨g, 0, none⟩ = some (.slice (some ⟨b, off, none⟩) nl lc) := M8.out.blk.cell rfl
    have d1 : (w8).cell? ⟨g, 1, none⟩ = some (.map (some bm)) := M8.out.blk.cell rfl
    have d3 : (w8).cell? ⟨g, 3, none⟩ = some (.map (some fm)) := M8.out.blk.cell rfl
    have s0 : (w8).cell? ⟨sb, 0, none⟩ = some (.pointer (some ⟨g, 0, none⟩)) := BS8.out.cell rfl
    have n0 : (w8).cell? ⟨bn, 0, none⟩ = some (.int .i64 (k : Int)) := BN8.out.cell rfl
    have n1 : (w8).cell? ⟨bn, 1, none⟩ = some (.string (txt s)) := BN8.out.cell rfl
    have n2 : (w8).cell? ⟨bn, 2, none⟩ = some (.int .i64 n) := BN8.out.cell rfl
    have n3 : (w8).cell? ⟨bn, 3, none⟩ = some (.slice (some ⟨kbk, ko, none⟩) 2 kc) := BN8.out.cell rfl
    have ls : sb < (w8).heap.size := BS8.out.lt
    have ln : bn < (w8).heap.size := BN8.out.lt
    have lg : g < (w8).heap.size := M8.out.lt.1
    by_cases hw0 : 0 ≤ w0
    · have ew : decide (0 ≤ w0) = true := by simp; omega
      have HW0 := Lib.hid hw0
      clear hw0
      go_wp2_with fail
      show Leaves Tryz.prog Tryz.f25 _ _ _ _ _
      refine leaves_cons (f := 37) (args := #[.pointer (some ⟨sb, 0, none⟩), .pointer (some ⟨bn, 0, none⟩)]) (by simp) (by simp [go_sem]) ?_
      refine (undo_d (C := C) M8.out HNM.out BS8.out BN8.out (by have := HH.out.vl; omega) (by have := HH.out.nbl; have := HSZ.out; (try simp only [sizeL]); omega) HH.out.cb (Nat.le_trans HH.out.size N8.out.bel.size)).mono ?_
      rintro e u' w9 ⟨rfl, rfl, hm9, hn9⟩
      show Leaves Tryz.prog Tryz.f25 _ _ _ _ _
      refine leaves_nil (results_tmp rfl _ _ _) ?_
      refine ⟨by rw [wR_succ, HFW.out, if_pos HW0.out]; try rfl, K1, ?_, KJ.wrong J3.out (by rw [HFW.out]; exact HW0.out), N8.out.trans hn9⟩
      rw [HFR.out, HSZ.out]
      exact hm9.mono (by (try simp only [sizeL]); omega) (by (try simp only [sizeL]); omega)
    · have ew : decide (0 ≤ w0) = false := by simp; omega
      have hlen := J3.out.len
      have hkl := HH.out.kl
      rw [HNL.out] at hkl
      obtain ⟨nK, hnK⟩ : ∃ z, K1.length = z := ⟨_, rfl⟩
      have d2 : w8.cell? ⟨g, 2, none⟩ = some (.slice (some ⟨kb, 0, none⟩) nK nK) := by rw [← hnK]; exact M8.out.blk.cell rfl
      have pK : (p : Int) < (nK : Int) := by omega
      have pK' : p < K1.length := by omega
      obtain ⟨u0, hu0⟩ : ∃ u, K1[p]? = some u := ⟨_, List.getElem?_eq_getElem pK'⟩
      have y0 := M8.out.cell hu0
      have yf := M8.out.kin.frozen p
      have hwneg : fstW f k s ([ta, tb] : List Tr) vs p (([ta, tb] : List Tr)).length < 0 := by rw [HFW.out]; omega
      have hkr := kR_prog HSH.out HH.out.deep hwneg
      obtain ⟨kr, hkrr⟩ : ∃ z, kR (f + 1) (.node k s n ([ta, tb] : List Tr)) vs = z := ⟨_, rfl⟩
      rw [hkrr] at hkr
      have hk34 : 1 ≤ k ∧ k ≤ 34 := by rcases shape_cases HSH.out with ⟨_, h⟩ | ⟨_, _, h⟩ | ⟨_, _, _, h⟩ | ⟨_, _, _, _, h⟩ <;> omega
      have htk4 : ∀ w', Below w8.heap.size w8 w' → TakesB w' := fun w' hb => by
        obtain ⟨t0, fr0, e0⟩ := HH.out.tk
        have h0 : 0 < W0.heap.size := by rcases Nat.lt_or_ge 0 W0.heap.size with h | h; exact h; rw [Array.getElem?_eq_none h] at e0; cases e0
        exact TakesB.block ⟨t0, fr0, e0⟩ ((HH.out.hw.trans ((N8.out.bel.mono HH.out.hC).trans (hb.mono (by have := HH.out.hw.size; have := N8.out.bel.size; omega)))).block 0 h0)
      have KC : Hid (∀ w', Below w8.heap.size w8 w' → Calls Tryz.prog 38 #[.pointer (some ⟨g, 0, none⟩), .agg #[.int .i64 (k : Int), .string (txt s), .int .i64 n, .slice (some ⟨kbk, ko, none⟩) 2 kc]] w' fun e w'' => e = .returned (.int .i64 kr) ∧ Below w'.heap.size w' w'') := Lib.hid (fun w' hb => by
        have hkvw : SlR w' w'.heap.size 1 IsI (.slice (some ⟨kbk, ko, none⟩) 2 kc) ((placesL ([ta, tb] : List Tr) (p + 1)).map fun n : Nat => (n : Int)) := ((HKV.out.below (HH.out.hw.trans (N8.out.bel.mono HH.out.hC))).below (hb.mono (by have := HH.out.hw.size; have := N8.out.bel.size; omega))).more (by have := HH.out.hw.size; have := N8.out.bel.size; have := hb.size; omega)
        have := kindp_any (k := k) (s := s) (n := n) (nk := 2) hk34 (M8.out.below hb) (htk4 w' hb) HNM.out hkvw (by rw [places_len]; try rfl) hks3 (kidK f k s ([ta, tb] : List Tr) vs) (fun i q hq => J3.out.kid HDL.out hwneg hq) (fun i hi => by unfold kidK; rw [List.getElem?_eq_none hi])
        rw [kindP_bnd (b2 := decide (s ∈ vs)) (by have := HK31.out; omega)] at this
        rw [← hkr] at this
        exact this)
      have HU0 := Lib.hid hu0
      have HKR := Lib.hid hkrr
      have HNK := Lib.hid hnK
      have HWN := Lib.hid hwneg
      have HPK := Lib.hid pK'
      clear hw0 hlen hkl hnK hu0 hwneg hkr hkrr htk4 hk34 pK'
      by_cases hk0 : kr = 0
      all_goals
        first | have ek : (kr == 0) = true := by (rw [hk0]; rfl) | have ek : (kr == 0) = false := by (simpa using hk0)
        have HK0 := Lib.hid hk0
        clear hk0
        have tokK : True := trivial
        go_upto_region 17 with fail
        refine wp_np ?_
        go_region_law (first
          | (have _t := tokK; go_simp; go_at_call 38; go_must (refine (KC.out _ ((Below.refl w8.heap.size w8).drew)).mono ?_); clear tokK _t
             rintro e w5 ⟨rfl, hb⟩
             go_must (have hb2 : Below w8.heap.size w8 w5 := ((Below.refl w8.heap.size w8).drew).trans hb)
             go_must (have M5 := Lib.hid (M8.out.below hb2))
             go_must (have N5 : Hid (NK W w5 C bm kb fm) := Lib.hid (N8.out.trans (NK.of_below hb2 (Nat.le_trans HH.out.size N8.out.bel.size))))
             go_must (have BS5 := Lib.hid (BS8.out.below hb2 BS8.out.lt))
             go_must (have BN5 := Lib.hid (BN8.out.below hb2 BN8.out.lt))
             go_must (have e0 : w5.cell? ⟨g, 2, none⟩ = some (.slice (some ⟨kb, 0, none⟩) nK nK) := by rw [← HNK.out]; exact M5.out.blk.cell rfl)
             go_must (have e1 : w5.cell? ⟨kb, p, none⟩ = some (.int .i64 u0) := M5.out.cell HU0.out)
             go_must (have e2 : w5.frozen? ⟨kb, p, none⟩ = false := M5.out.kin.frozen p)
             go_must (have e3 : w5.cell? ⟨sb, 0, none⟩ = some (.pointer (some ⟨g, 0, none⟩)) := BS5.out.cell rfl)
             clear hb hb2)
          | fail)
        all_goals
          generalize hW6 : World.setCell _ _ _ = W6
          have M6 : Hid (KSt W6 g bm kb fm (nb + 2 * ta.size + 1 + 2 * tb.size) (nf + ta.size + tb.size) (.slice (some ⟨b, off, none⟩) nl lc) (K1.set p kr) (vs ++ [s]) F1) := Lib.hid (by rw [← hW6]; exact M5.out.kind p kr)
          have N6 : Hid (NK W W6 C bm kb fm) := Lib.hid (N5.out.trans (by rw [← hW6]; exact NK.of_set p _ HH.out.ck))
          have g0 : W6.cell? ⟨g, 2, none⟩ = some (.slice (some ⟨kb, 0, none⟩) nK nK) := by rw [← HNK.out]; have := M6.out.blk.cell (i := 2) rfl; rwa [List.length_set] at this
          have g1 : W6.cell? ⟨kb, p, none⟩ = some (.int .i64 kr) := M6.out.cell (List.getElem?_set_self HPK.out)
          have g2 : W6.cell? ⟨sb, 0, none⟩ = some (.pointer (some ⟨g, 0, none⟩)) := by
            rw [← hW6]
            exact (BS5.out.far (p := ⟨kb, p, none⟩) NE.out.1.2.1 _).cell rfl
          have BS6 : Hid (Blk W6 sb 48 #[.pointer (some ⟨g, 0, none⟩)]) := Lib.hid (by rw [← hW6]; exact BS5.out.far (p := ⟨kb, p, none⟩) NE.out.1.2.1 _)
          have BN6 : Hid (Blk W6 bn 40 #[.int .i64 (k : Int), .string (txt s), .int .i64 n, .slice (some ⟨kbk, ko, none⟩) 2 kc]) := Lib.hid (by rw [← hW6]; exact BN5.out.far (p := ⟨kb, p, none⟩) NE.out.2.2.1 _)
          clear hW6
          simp only [noP]
          go_wp2_with fail
          show Leaves Tryz.prog Tryz.f25 _ _ _ _ _
          refine leaves_cons (f := 37) (args := #[.pointer (some ⟨sb, 0, none⟩), .pointer (some ⟨bn, 0, none⟩)]) (by simp) (by simp [go_sem]) ?_
          refine (undo_d (C := C) M6.out HNM.out BS6.out BN6.out (by have := HH.out.vl; omega) (by have := HH.out.nbl; have := HSZ.out; (try simp only [sizeL]); omega) HH.out.cb (Nat.le_trans HH.out.size N6.out.bel.size)).mono ?_
          rintro e u' w9 ⟨rfl, rfl, hm9, hn9⟩
          show Leaves Tryz.prog Tryz.f25 _ _ _ _ _
          refine leaves_nil (results_tmp rfl _ _ _) ?_
          refine ⟨?_, K1.set p kr, ?_, by rw [← HKR.out]; exact KJ.right J3.out (by rw [← J3.out.len]; exact HPK.out) HWN.out, N6.out.trans hn9⟩
          · rw [wR_succ, HKR.out, if_neg (by have := HWN.out; omega)]
            first | (rw [if_pos HK0.out]; try rfl) | (rw [if_neg HK0.out]; try rfl)
          · rw [HFR.out, HSZ.out]
            exact hm9.mono (by (try simp only [sizeL]); omega) (by (try simp only [sizeL]); omega)

end Go.Proofs.YtidkbodmiegbkaaGreatDoor
