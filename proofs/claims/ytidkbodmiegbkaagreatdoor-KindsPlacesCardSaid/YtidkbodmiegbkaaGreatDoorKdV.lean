/- Chapter 09: the program's node, walked: a variable. -/
import Derived.Test.YtidkbodmiegbkaaGreatDoorKdU
namespace Go.Proofs.YtidkbodmiegbkaaGreatDoor
set_option linter.unusedSimpArgs false
set_option linter.unusedVariables false
open Go.RowKit

set_option maxRecDepth 100000 in
set_option maxHeartbeats 8000000 in
theorem nodep_var {l : List ND} {lv : Value} {W0 : World} {C g bm kb fm f k p : Nat} {s : List Nat} {n : Int} {vs : List (List Nat)} {W : World} {nb nf : Nat} {K : List Int} {F : List (List Nat)} (ih : NodeIsK l lv W0 C g bm kb fm f) (H : NPk l lv W0 C g bm kb fm (f + 1) (.node k s n []) p vs W nb nf K F) (hk7 : k = 7) : Calls Tryz.prog 25 #[.pointer (some ⟨g, 0, none⟩), .int .i64 (p : Int)] W (NodeW W C g bm kb fm lv (f + 1) (.node k s n []) p vs nb nf K F) := by
  have ek7 : ((k : Int) == 7) = true := by rw [hk7]; rfl
  have HK7 := Lib.hid hk7
  clear hk7
  obtain ⟨hd, hks⟩ := stands_node H.un.stands
  obtain ⟨la, lc, rfl, _, _⟩ := H.hs.form
  have hpl := (List.getElem?_eq_some_iff.1 hd).1
  obtain ⟨nl, hnl⟩ : ∃ z, l.length = z := ⟨_, rfl⟩
  have hok := H.hok _ (List.mem_iff_getElem?.2 ⟨p, hd⟩)
  rw [hnl] at H hpl ih ⊢
  have hB6 := H.hw.alloc H.hw.size (.cells #[.pointer (some ⟨g, 0, none⟩)] 48)
  obtain ⟨b, off, x, rfl, hbB, hxl, ⟨kv, rfl, hkv⟩, hx⟩ := (H.hs.below hB6).at_ hd
  obtain ⟨ka, kc, rfl, _, _⟩ := hkv.form
  simp only [List.length_map, places_len] at hkv hx
  simp only [List.length_cons, List.length_nil, Nat.zero_add, Nat.reduceAdd] at hkv hx
  have x0 := hx 0 _ rfl
  have x1 := hx 1 _ rfl
  have x2 := hx 2 _ rfl
  have x3 := hx 3 _ rfl
  simp only [Nat.add_zero] at x0
  have p0 : (0 : Int) ≤ (p : Int) := Int.natCast_nonneg _
  have p1 : (p : Int) < (nl : Int) := by omega
  have HH := Lib.hid H
  have HNL := Lib.hid hnl
  have HKV := Lib.hid hkv
  have IH := Lib.hid ih
  have HNM : Hid (NameOk s) := Lib.hid ⟨hok.1, hok.2.1⟩
  have HSH := Lib.hid H.good.1.1
  have hmf : ∀ (fn : Fn) (first cap : Array Value) (w : World), (Instr.makeFunc fn first cap).run Tryz.prog w = .ok (.func fn first cap) w := fun _ _ _ _ => rfl
  clear H hd hkv hx hxl hks hnl ih hok hB6
  go_enter_defers Tryz.func25, Tryz.ntmps25
  go_upto_region 1 with fail
  have BS1 : Hid (Blk (W.alloc (.cells #[.pointer (some ⟨g, 0, none⟩)] 48)) W.heap.size 48 #[.pointer (some ⟨g, 0, none⟩)]) := Lib.hid (Blk.new _ _ _)
  have M1 := Lib.hid (HH.out.ms.alloc (.cells #[.pointer (some ⟨g, 0, none⟩)] 48))
  have N1 : Hid (NK W (W.alloc (.cells #[.pointer (some ⟨g, 0, none⟩)] 48)) C bm kb fm) := Lib.hid (NK.of_below ((Below.refl _ _).alloc (Nat.le_refl _) _) HH.out.size)
  obtain ⟨sb, hsb⟩ : ∃ z, W.heap.size = z := ⟨_, rfl⟩
  generalize hW1 : W.alloc (.cells #[.pointer (some ⟨g, 0, none⟩)] 48) = W1 at *
  rw [hsb] at BS1 ⊢
  clear hW1 hsb
  have d0 : W1.cell? ⟨g, 0, none⟩ = some (.slice (some ⟨b, off, none⟩) nl lc) := M1.out.blk.cell rfl
  have s0 : W1.cell? ⟨sb, 0, none⟩ = some (.pointer (some ⟨g, 0, none⟩)) := BS1.out.cell rfl
  have ls : sb < W1.heap.size := BS1.out.lt
  have lg : g < W1.heap.size := M1.out.lt.1
  go_upto_region 3 with fail
  have BN2 : Hid (Blk (W1.alloc (.cells #[.int .i64 (k : Int), .string (txt s), .int .i64 n, .slice ka 0 kc] 40)) W1.heap.size 40 #[.int .i64 (k : Int), .string (txt s), .int .i64 n, .slice ka 0 kc]) := Lib.hid (Blk.new _ _ _)
  have BS2 := Lib.hid (BS1.out.alloc (.cells #[.int .i64 (k : Int), .string (txt s), .int .i64 n, .slice ka 0 kc] 40))
  have M2 := Lib.hid (M1.out.alloc (.cells #[.int .i64 (k : Int), .string (txt s), .int .i64 n, .slice ka 0 kc] 40))
  have N2 : Hid (NK W (W1.alloc (.cells #[.int .i64 (k : Int), .string (txt s), .int .i64 n, .slice ka 0 kc] 40)) C bm kb fm) := Lib.hid (N1.out.trans (NK.of_below ((Below.refl _ _).alloc (Nat.le_refl _) _) (Nat.le_trans HH.out.size N1.out.bel.size)))
  obtain ⟨bn, hbn⟩ : ∃ z, W1.heap.size = z := ⟨_, rfl⟩
  generalize hW2 : W1.alloc (.cells #[.int .i64 (k : Int), .string (txt s), .int .i64 n, .slice ka 0 kc] 40) = W2 at *
  rw [hbn] at BN2 ⊢
  clear hW2 hbn BS1 M1 N1 d0 s0 ls lg x0 x1 x2 x3
  have d0 : (W2).cell? ⟨g, 0, none⟩ = some (.slice (some ⟨b, off, none⟩) nl lc) := M2.out.blk.cell rfl
  have d1 : (W2).cell? ⟨g, 1, none⟩ = some (.map (some bm)) := M2.out.blk.cell rfl
  have d3 : (W2).cell? ⟨g, 3, none⟩ = some (.map (some fm)) := M2.out.blk.cell rfl
  have s0 : (W2).cell? ⟨sb, 0, none⟩ = some (.pointer (some ⟨g, 0, none⟩)) := BS2.out.cell rfl
  have n0 : (W2).cell? ⟨bn, 0, none⟩ = some (.int .i64 (k : Int)) := BN2.out.cell rfl
  have n1 : (W2).cell? ⟨bn, 1, none⟩ = some (.string (txt s)) := BN2.out.cell rfl
  have n2 : (W2).cell? ⟨bn, 2, none⟩ = some (.int .i64 n) := BN2.out.cell rfl
  have n3 : (W2).cell? ⟨bn, 3, none⟩ = some (.slice ka 0 kc) := BN2.out.cell rfl
  have ls : sb < (W2).heap.size := BS2.out.lt
  have ln : bn < (W2).heap.size := BN2.out.lt
  have lg : g < (W2).heap.size := M2.out.lt.1
  have hdl := deep_one HH.out.deep
  have HDL := Lib.hid hdl
  have hks3 : ([] : List Tr).length ≤ 3 := by simp
  have NE := Lib.hid (And.intro (And.intro (map_blk_ne M2.out.bnd BS2.out) (And.intro (BS2.out.differ M2.out.kin (by decide)) (map_blk_ne M2.out.fre.is BS2.out))) (And.intro (map_blk_ne M2.out.bnd BN2.out) (And.intro (BN2.out.differ M2.out.kin (by decide)) (map_blk_ne M2.out.fre.is BN2.out))))
  have HFW : Hid (fstW f k s [] vs p ([] : List Tr).length = -1) := Lib.hid rfl
  have J3 : Hid (KJ f k s [] vs p ([] : List Tr).length K K) := Lib.hid (KJ.zero _ _ _ _ _ _ _)
  have HSZ : Hid ((Tr.node k s n []).size = 1) := Lib.hid (by simp [Tr.size, sizeL])
  have hcz := cnt_zero (vs := vs) (s := s)
  obtain ⟨cv, hcv⟩ : ∃ z, cntV vs s = z := ⟨_, rfl⟩
  have HCV := Lib.hid hcv
  rw [hcv] at hcz
  clear hdl hcv
  go_wp2_with fail
  go_loopw [6, 20] (fun v6 v20 wr => v6 = .int .i64 (-1) ∧ v20 = .int .i64 0 ∧ W2 = wr) (fun _ _ _ => 0)
  case atStart => exact ⟨rfl, rfl, rfl⟩
  case round =>
    obtain ⟨rfl, rfl, rfl⟩ := hrel
    go_upto_region 13 with fail
    go_still_tail 10, (by kernel_rfl)
    change wpList _ _ _ _ _ W2.drew
    have M4 := Lib.hid M2.out.drew
    have N4 : Hid (NK W W2.drew C bm kb fm) := Lib.hid (N2.out.trans (NK.of_below (Below.refl _ _).drew (Nat.le_trans HH.out.size N2.out.bel.size)))
    have BS4 : Hid (Blk W2.drew sb 48 #[.pointer (some ⟨g, 0, none⟩)]) := Lib.hid (Blk.drwN' BS2.out 1)
    have BN4 : Hid (Blk W2.drew bn 40 #[.int .i64 (k : Int), .string (txt s), .int .i64 n, .slice ka 0 kc]) := Lib.hid (Blk.drwN' BN2.out 1)
    generalize W2.drew = w4 at *
    clear d0 d1 d3 s0 n0 n1 n2 n3 ls ln lg
    have d0 : (w4).cell? ⟨g, 0, none⟩ = some (.slice (some ⟨b, off, none⟩) nl lc) := M4.out.blk.cell rfl
    have d1 : (w4).cell? ⟨g, 1, none⟩ = some (.map (some bm)) := M4.out.blk.cell rfl
    have d3 : (w4).cell? ⟨g, 3, none⟩ = some (.map (some fm)) := M4.out.blk.cell rfl
    have s0 : (w4).cell? ⟨sb, 0, none⟩ = some (.pointer (some ⟨g, 0, none⟩)) := BS4.out.cell rfl
    have n0 : (w4).cell? ⟨bn, 0, none⟩ = some (.int .i64 (k : Int)) := BN4.out.cell rfl
    have n1 : (w4).cell? ⟨bn, 1, none⟩ = some (.string (txt s)) := BN4.out.cell rfl
    have n2 : (w4).cell? ⟨bn, 2, none⟩ = some (.int .i64 n) := BN4.out.cell rfl
    have n3 : (w4).cell? ⟨bn, 3, none⟩ = some (.slice ka 0 kc) := BN4.out.cell rfl
    have ls : sb < (w4).heap.size := BS4.out.lt
    have ln : bn < (w4).heap.size := BN4.out.lt
    have lg : g < (w4).heap.size := M4.out.lt.1
    have hlk : (Instr.lookup 51 (.map (some bm)) (.string (txt s)) false).run Tryz.prog w4 = .ok (.int .i64 cv) w4 := by rw [← HCV.out]; exact M4.out.bnd.at_.look HNM.out
    by_cases hb : s ∈ vs
    · have HFR : Hid (frR (f + 1) (.node k s n []) vs F = F) := Lib.hid (by rw [frR_succ, if_neg (fun h => h.2 hb)]; rfl)
      obtain ⟨F1, hF1⟩ : ∃ z, F = z := ⟨_, rfl⟩
      rw [decide_eq_true hb] at hcz
      have hcz' : (cv == 0) = false := hcz
      rw [hF1] at M4
      have HFR : Hid (frR (f + 1) (.node k s n []) vs F = F1) := Lib.hid (by rw [HFR.out, hF1])
      clear hcz hb hF1
      go_upto_region 15 with fail
      have hw0 : ¬ (0 ≤ (-1 : Int)) := by omega
      have ew : decide (0 ≤ (-1 : Int)) = false := by decide
      have hlen := J3.out.len
      have hkl := HH.out.kl
      rw [HNL.out] at hkl
      obtain ⟨nK, hnK⟩ : ∃ z, K.length = z := ⟨_, rfl⟩
      have d2 : w4.cell? ⟨g, 2, none⟩ = some (.slice (some ⟨kb, 0, none⟩) nK nK) := by rw [← hnK]; exact M4.out.blk.cell rfl
      have pK : (p : Int) < (nK : Int) := by omega
      have pK' : p < K.length := by omega
      obtain ⟨u0, hu0⟩ : ∃ u, K[p]? = some u := ⟨_, List.getElem?_eq_getElem pK'⟩
      have y0 := M4.out.cell hu0
      have yf := M4.out.kin.frozen p
      have hwneg : fstW f k s ([] : List Tr) vs p (([] : List Tr)).length < 0 := by rw [HFW.out]; omega
      have hkr := kR_prog HSH.out HH.out.deep hwneg
      obtain ⟨kr, hkrr⟩ : ∃ z, kR (f + 1) (.node k s n ([] : List Tr)) vs = z := ⟨_, rfl⟩
      rw [hkrr] at hkr
      have hk34 : 1 ≤ k ∧ k ≤ 34 := by rcases shape_cases HSH.out with ⟨_, h⟩ | ⟨_, _, h⟩ | ⟨_, _, _, h⟩ | ⟨_, _, _, _, h⟩ <;> omega
      have htk4 : ∀ w', Below w4.heap.size w4 w' → TakesB w' := fun w' hb => by
        obtain ⟨t0, fr0, e0⟩ := HH.out.tk
        have h0 : 0 < W0.heap.size := by rcases Nat.lt_or_ge 0 W0.heap.size with h | h; exact h; rw [Array.getElem?_eq_none h] at e0; cases e0
        exact TakesB.block ⟨t0, fr0, e0⟩ ((HH.out.hw.trans ((N4.out.bel.mono HH.out.hC).trans (hb.mono (by have := HH.out.hw.size; have := N4.out.bel.size; omega)))).block 0 h0)
      have KC : Hid (∀ w', Below w4.heap.size w4 w' → Calls Tryz.prog 38 #[.pointer (some ⟨g, 0, none⟩), .agg #[.int .i64 (k : Int), .string (txt s), .int .i64 n, .slice ka 0 kc]] w' fun e w'' => e = .returned (.int .i64 kr) ∧ Below w'.heap.size w' w'') := Lib.hid (fun w' hb => by
        have hkvw : SlR w' w'.heap.size 1 IsI (.slice ka 0 kc) ((placesL ([] : List Tr) (p + 1)).map fun n : Nat => (n : Int)) := ((HKV.out.below (HH.out.hw.trans (N4.out.bel.mono HH.out.hC))).below (hb.mono (by have := HH.out.hw.size; have := N4.out.bel.size; omega))).more (by have := HH.out.hw.size; have := N4.out.bel.size; have := hb.size; omega)
        have := kindp_any (k := k) (s := s) (n := n) (nk := 0) hk34 (M4.out.below hb) (htk4 w' hb) HNM.out hkvw (by rw [places_len]; try rfl) hks3 (kidK f k s ([] : List Tr) vs) (fun i q hq => J3.out.kid HDL.out hwneg hq) (fun i hi => by unfold kidK; rw [List.getElem?_eq_none hi])
        rw [← hkr] at this
        exact this)
      have HU0 := Lib.hid hu0
      have HKR := Lib.hid hkrr
      have HNK := Lib.hid hnK
      have HWN := Lib.hid hwneg
      have HPK := Lib.hid pK'
      clear hw0 hlen hkl hnK hu0 hwneg hkr hkrr htk4 hk34 pK'
      by_cases hk0 : kr = 0
      all_goals
        first | have ek : (kr == 0) = true := by (rw [hk0]; rfl) | have ek : (kr == 0) = false := by (simpa using hk0)
        have HK0 := Lib.hid hk0
        clear hk0
        have tokK : True := trivial
        go_upto_region 17 with fail
        refine wp_np ?_
        go_region_law (first
          | (have _t := tokK; go_simp; go_at_call 38; go_must (refine (KC.out _ ((Below.refl w4.heap.size w4).drew)).mono ?_); clear tokK _t
             rintro e w5 ⟨rfl, hb⟩
             go_must (have hb2 : Below w4.heap.size w4 w5 := ((Below.refl w4.heap.size w4).drew).trans hb)
             go_must (have M5 := Lib.hid (M4.out.below hb2))
             go_must (have N5 : Hid (NK W w5 C bm kb fm) := Lib.hid (N4.out.trans (NK.of_below hb2 (Nat.le_trans HH.out.size N4.out.bel.size))))
             go_must (have BS5 := Lib.hid (BS4.out.below hb2 BS4.out.lt))
             go_must (have BN5 := Lib.hid (BN4.out.below hb2 BN4.out.lt))
             go_must (have e0 : w5.cell? ⟨g, 2, none⟩ = some (.slice (some ⟨kb, 0, none⟩) nK nK) := by rw [← HNK.out]; exact M5.out.blk.cell rfl)
             go_must (have e1 : w5.cell? ⟨kb, p, none⟩ = some (.int .i64 u0) := M5.out.cell HU0.out)
             go_must (have e2 : w5.frozen? ⟨kb, p, none⟩ = false := M5.out.kin.frozen p)
             go_must (have e3 : w5.cell? ⟨sb, 0, none⟩ = some (.pointer (some ⟨g, 0, none⟩)) := BS5.out.cell rfl)
             clear hb hb2)
          | fail)
        all_goals
          generalize hW6 : World.setCell _ _ _ = W6
          have M6 : Hid (KSt W6 g bm kb fm (nb) (nf) (.slice (some ⟨b, off, none⟩) nl lc) (K.set p kr) vs F1) := Lib.hid (by rw [← hW6]; exact M5.out.kind p kr)
          have N6 : Hid (NK W W6 C bm kb fm) := Lib.hid (N5.out.trans (by rw [← hW6]; exact NK.of_set p _ HH.out.ck))
          have g0 : W6.cell? ⟨g, 2, none⟩ = some (.slice (some ⟨kb, 0, none⟩) nK nK) := by rw [← HNK.out]; have := M6.out.blk.cell (i := 2) rfl; rwa [List.length_set] at this
          have g1 : W6.cell? ⟨kb, p, none⟩ = some (.int .i64 kr) := M6.out.cell (List.getElem?_set_self HPK.out)
          have g2 : W6.cell? ⟨sb, 0, none⟩ = some (.pointer (some ⟨g, 0, none⟩)) := by
            rw [← hW6]
            exact (BS5.out.far (p := ⟨kb, p, none⟩) NE.out.1.2.1 _).cell rfl
          clear hW6
          simp only [noP]
          go_wp2_with fail
          show Leaves Tryz.prog Tryz.f25 _ _ _ _ _
          refine leaves_nil (results_tmp rfl _ _ _) ?_
          refine ⟨?_, K.set p kr, ?_, by rw [← HKR.out]; exact KJ.right J3.out (by rw [← J3.out.len]; exact HPK.out) HWN.out, N6.out⟩
          · rw [wR_succ, HKR.out, if_neg (by have := HWN.out; omega)]
            first | (rw [if_pos HK0.out]; try rfl) | (rw [if_neg HK0.out]; try rfl)
          · rw [HFR.out, HSZ.out]
            exact M6.out.mono (by (try simp only [sizeL]); omega) (by (try simp only [sizeL]); omega)

    · have HFR : Hid (frR (f + 1) (.node k s n []) vs F = s :: F) := Lib.hid (by rw [frR_succ, if_pos ⟨HK7.out, hb⟩]; rfl)
      obtain ⟨F1, hF1⟩ : ∃ z, s :: F = z := ⟨_, rfl⟩
      rw [decide_eq_false hb] at hcz
      have hcz' : (cv == 0) = true := hcz
      have HF1 := Lib.hid hF1
      rw [hF1] at HFR
      clear hcz hb hF1
      go_upto_region 14 with fail
      go_still_tail 6, (by kernel_rfl)
      change wpList _ _ _ _ _ w4.drew
      have M8 := Lib.hid M4.out.drew
      have N8 : Hid (NK W w4.drew C bm kb fm) := Lib.hid (N4.out.trans (NK.of_below (Below.refl _ _).drew (Nat.le_trans HH.out.size N4.out.bel.size)))
      have BS8 : Hid (Blk w4.drew sb 48 #[.pointer (some ⟨g, 0, none⟩)]) := Lib.hid (Blk.drwN' BS4.out 1)
      have BN8 : Hid (Blk w4.drew bn 40 #[.int .i64 (k : Int), .string (txt s), .int .i64 n, .slice ka 0 kc]) := Lib.hid (Blk.drwN' BN4.out 1)
      generalize w4.drew = w8 at *
      go_upto_region 15 with (first
        | (at_mapUpdate; go_must (refine wpList_putF rfl _ _ _ rfl M8.out.fre HNM.out (by have := HH.out.nfl; unfold maxLen; omega) 1 (by omega) (by decide) (by rfl) (by rfl) (by rfl) ?_)
           intro w9 hm9 hg9
           go_must (have M9 : Hid (KSt w9 g bm kb fm nb (nf + 1) (.slice (some ⟨b, off, none⟩) nl lc) K vs F1) := Lib.hid (M8.out.frees hg9 (hm9.same (fun x hx => by rw [← HF1.out]; unfold freeV; by_cases e : x = s <;> simp [e]))))
           go_must (have N9 : Hid (NK W w9 C bm kb fm) := Lib.hid (N8.out.trans (NK.of_grown hg9 (.inr (.inr rfl)) HH.out.cf (Nat.le_trans HH.out.size N8.out.bel.size))))
           go_must (have BS9 := Lib.hid (BS8.out.grown hg9 (fun e => by injection e with e; exact NE.out.1.2.2 e)))
           go_must (have BN9 := Lib.hid (BN8.out.grown hg9 (fun e => by injection e with e; exact NE.out.2.2.2 e)))
           clear hm9 hg9)
        | fail)
      clear d0 d1 d3 s0 n0 n1 n2 n3 ls ln lg
      have d0 : (w9).cell? ⟨g, 0, none⟩ = some (.slice (some ⟨b, off, none⟩) nl lc) := M9.out.blk.cell rfl
      have d1 : (w9).cell? ⟨g, 1, none⟩ = some (.map (some bm)) := M9.out.blk.cell rfl
      have d3 : (w9).cell? ⟨g, 3, none⟩ = some (.map (some fm)) := M9.out.blk.cell rfl
      have s0 : (w9).cell? ⟨sb, 0, none⟩ = some (.pointer (some ⟨g, 0, none⟩)) := BS9.out.cell rfl
      have n0 : (w9).cell? ⟨bn, 0, none⟩ = some (.int .i64 (k : Int)) := BN9.out.cell rfl
      have n1 : (w9).cell? ⟨bn, 1, none⟩ = some (.string (txt s)) := BN9.out.cell rfl
      have n2 : (w9).cell? ⟨bn, 2, none⟩ = some (.int .i64 n) := BN9.out.cell rfl
      have n3 : (w9).cell? ⟨bn, 3, none⟩ = some (.slice ka 0 kc) := BN9.out.cell rfl
      have ls : sb < (w9).heap.size := BS9.out.lt
      have ln : bn < (w9).heap.size := BN9.out.lt
      have lg : g < (w9).heap.size := M9.out.lt.1
      have hw0 : ¬ (0 ≤ (-1 : Int)) := by omega
      have ew : decide (0 ≤ (-1 : Int)) = false := by decide
      have hlen := J3.out.len
      have hkl := HH.out.kl
      rw [HNL.out] at hkl
      obtain ⟨nK, hnK⟩ : ∃ z, K.length = z := ⟨_, rfl⟩
      have d2 : w9.cell? ⟨g, 2, none⟩ = some (.slice (some ⟨kb, 0, none⟩) nK nK) := by rw [← hnK]; exact M9.out.blk.cell rfl
      have pK : (p : Int) < (nK : Int) := by omega
      have pK' : p < K.length := by omega
      obtain ⟨u0, hu0⟩ : ∃ u, K[p]? = some u := ⟨_, List.getElem?_eq_getElem pK'⟩
      have y0 := M9.out.cell hu0
      have yf := M9.out.kin.frozen p
      have hwneg : fstW f k s ([] : List Tr) vs p (([] : List Tr)).length < 0 := by rw [HFW.out]; omega
      have hkr := kR_prog HSH.out HH.out.deep hwneg
      obtain ⟨kr, hkrr⟩ : ∃ z, kR (f + 1) (.node k s n ([] : List Tr)) vs = z := ⟨_, rfl⟩
      rw [hkrr] at hkr
      have hk34 : 1 ≤ k ∧ k ≤ 34 := by rcases shape_cases HSH.out with ⟨_, h⟩ | ⟨_, _, h⟩ | ⟨_, _, _, h⟩ | ⟨_, _, _, _, h⟩ <;> omega
      have htk4 : ∀ w', Below w9.heap.size w9 w' → TakesB w' := fun w' hb => by
        obtain ⟨t0, fr0, e0⟩ := HH.out.tk
        have h0 : 0 < W0.heap.size := by rcases Nat.lt_or_ge 0 W0.heap.size with h | h; exact h; rw [Array.getElem?_eq_none h] at e0; cases e0
        exact TakesB.block ⟨t0, fr0, e0⟩ ((HH.out.hw.trans ((N9.out.bel.mono HH.out.hC).trans (hb.mono (by have := HH.out.hw.size; have := N9.out.bel.size; omega)))).block 0 h0)
      have KC : Hid (∀ w', Below w9.heap.size w9 w' → Calls Tryz.prog 38 #[.pointer (some ⟨g, 0, none⟩), .agg #[.int .i64 (k : Int), .string (txt s), .int .i64 n, .slice ka 0 kc]] w' fun e w'' => e = .returned (.int .i64 kr) ∧ Below w'.heap.size w' w'') := Lib.hid (fun w' hb => by
        have hkvw : SlR w' w'.heap.size 1 IsI (.slice ka 0 kc) ((placesL ([] : List Tr) (p + 1)).map fun n : Nat => (n : Int)) := ((HKV.out.below (HH.out.hw.trans (N9.out.bel.mono HH.out.hC))).below (hb.mono (by have := HH.out.hw.size; have := N9.out.bel.size; omega))).more (by have := HH.out.hw.size; have := N9.out.bel.size; have := hb.size; omega)
        have := kindp_any (k := k) (s := s) (n := n) (nk := 0) hk34 (M9.out.below hb) (htk4 w' hb) HNM.out hkvw (by rw [places_len]; try rfl) hks3 (kidK f k s ([] : List Tr) vs) (fun i q hq => J3.out.kid HDL.out hwneg hq) (fun i hi => by unfold kidK; rw [List.getElem?_eq_none hi])
        rw [← hkr] at this
        exact this)
      have HU0 := Lib.hid hu0
      have HKR := Lib.hid hkrr
      have HNK := Lib.hid hnK
      have HWN := Lib.hid hwneg
      have HPK := Lib.hid pK'
      clear hw0 hlen hkl hnK hu0 hwneg hkr hkrr htk4 hk34 pK'
      by_cases hk0 : kr = 0
      all_goals
        first | have ek : (kr == 0) = true := by (rw [hk0]; rfl) | have ek : (kr == 0) = false := by (simpa using hk0)
        have HK0 := Lib.hid hk0
        clear hk0
        have tokK : True := trivial
        go_upto_region 17 with fail
        refine wp_np ?_
        go_region_law (first
          | (have _t := tokK; go_simp; go_at_call 38; go_must (refine (KC.out _ ((Below.refl w9.heap.size w9).drew)).mono ?_); clear tokK _t
             rintro e w5 ⟨rfl, hb⟩
             go_must (have hb2 : Below w9.heap.size w9 w5 := ((Below.refl w9.heap.size w9).drew).trans hb)
             go_must (have M5 := Lib.hid (M9.out.below hb2))
             go_must (have N5 : Hid (NK W w5 C bm kb fm) := Lib.hid (N9.out.trans (NK.of_below hb2 (Nat.le_trans HH.out.size N9.out.bel.size))))
             go_must (have BS5 := Lib.hid (BS9.out.below hb2 BS9.out.lt))
             go_must (have BN5 := Lib.hid (BN9.out.below hb2 BN9.out.lt))
             go_must (have e0 : w5.cell? ⟨g, 2, none⟩ = some (.slice (some ⟨kb, 0, none⟩) nK nK) := by rw [← HNK.out]; exact M5.out.blk.cell rfl)
             go_must (have e1 : w5.cell? ⟨kb, p, none⟩ = some (.int .i64 u0) := M5.out.cell HU0.out)
             go_must (have e2 : w5.frozen? ⟨kb, p, none⟩ = false := M5.out.kin.frozen p)
             go_must (have e3 : w5.cell? ⟨sb, 0, none⟩ = some (.pointer (some ⟨g, 0, none⟩)) := BS5.out.cell rfl)
             clear hb hb2)
          | fail)
        all_goals
          generalize hW6 : World.setCell _ _ _ = W6
          have M6 : Hid (KSt W6 g bm kb fm (nb) (nf + 1) (.slice (some ⟨b, off, none⟩) nl lc) (K.set p kr) vs F1) := Lib.hid (by rw [← hW6]; exact M5.out.kind p kr)
          have N6 : Hid (NK W W6 C bm kb fm) := Lib.hid (N5.out.trans (by rw [← hW6]; exact NK.of_set p _ HH.out.ck))
          have g0 : W6.cell? ⟨g, 2, none⟩ = some (.slice (some ⟨kb, 0, none⟩) nK nK) := by rw [← HNK.out]; have := M6.out.blk.cell (i := 2) rfl; rwa [List.length_set] at this
          have g1 : W6.cell? ⟨kb, p, none⟩ = some (.int .i64 kr) := M6.out.cell (List.getElem?_set_self HPK.out)
          have g2 : W6.cell? ⟨sb, 0, none⟩ = some (.pointer (some ⟨g, 0, none⟩)) := by
            rw [← hW6]
            exact (BS5.out.far (p := ⟨kb, p, none⟩) NE.out.1.2.1 _).cell rfl
          clear hW6
          simp only [noP]
          go_wp2_with fail
          show Leaves Tryz.prog Tryz.f25 _ _ _ _ _
          refine leaves_nil (results_tmp rfl _ _ _) ?_
          refine ⟨?_, K.set p kr, ?_, by rw [← HKR.out]; exact KJ.right J3.out (by rw [← J3.out.len]; exact HPK.out) HWN.out, N6.out⟩
          · rw [wR_succ, HKR.out, if_neg (by have := HWN.out; omega)]
            first | (rw [if_pos HK0.out]; try rfl) | (rw [if_neg HK0.out]; try rfl)
          · rw [HFR.out, HSZ.out]
            exact M6.out.mono (by (try simp only [sizeL]); omega) (by (try simp only [sizeL]); omega)

end Go.Proofs.YtidkbodmiegbkaaGreatDoor
