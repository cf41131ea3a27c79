/- Chapter 09: the program's node, walked: no loop, no variable. -/
import Derived.Test.YtidkbodmiegbkaaGreatDoorKdT
import Derived.Test.YtidkbodmiegbkaaGreatDoorNCrA
import Derived.Deep.RegionLaw
import Derived.Deep.QuietTactic
import Derived.BigQuiet
namespace Go.Proofs.YtidkbodmiegbkaaGreatDoor
set_option linter.unusedSimpArgs false
set_option linter.unusedVariables false
open Go.RowKit

/-- whatever the kind -/
theorem kindp_any {W : World} {g bm kb fm nb nf nk k : Nat} {lv kv : Value} {K : List Int} {vs F : List (List Nat)} {s : List Nat} {n : Int} {qs : List Nat} (hk : 1 ≤ k ∧ k ≤ 34) (H : KSt W g bm kb fm nb nf lv K vs F) (htk : TakesB W) (hs : NameOk s) (hkv : SlR W W.heap.size 1 IsI kv (qs.map fun n : Nat => (n : Int))) (hq : qs.length = nk) (hn3 : nk ≤ 3) (a : Nat → Int) (ha : ∀ i q, qs[i]? = some q → K[q]? = some (a i)) (hz : ∀ i, nk ≤ i → a i = 0) :
    Calls Tryz.prog 38 #[.pointer (some ⟨g, 0, none⟩), .agg #[.int .i64 (k : Int), .string (txt s), .int .i64 n, kv]] W fun e w' => e = .returned (.int .i64 (kindP k (decide (s ∈ vs)) (a 0) (a 1) (a 2))) ∧ Below W.heap.size W w' := by
  by_cases h7 : k = 7
  · subst h7; exact kindp_7 H htk hs hkv hq hn3 a ha hz
  by_cases h20 : k = 20
  · subst h20; exact kindp_20 H htk hs hkv hq hn3 a ha hz
  by_cases h23 : k = 23
  · subst h23; exact kindp_23 H htk hs hkv hq hn3 a ha hz
  by_cases h24 : k = 24
  · subst h24; exact kindp_24 H htk hs hkv hq hn3 a ha hz
  by_cases h25 : k = 25
  · subst h25; exact kindp_25 H htk hs hkv hq hn3 a ha hz
  by_cases h26 : k = 26
  · subst h26; exact kindp_26 H htk hs hkv hq hn3 a ha hz
  by_cases h30 : k = 30
  · subst h30; exact kindp_30 H htk hs hkv hq hn3 a ha hz
  exact kindp_def H htk hs hkv hq hn3 a ha hz (by omega)
def noP (Q : Exit → Act → World → Prop) : Exit → Act → World → Prop := fun e a w => match e with
  | .panic _ => False
  | e => Q e a w
theorem wp_np {P : Program} {c : Code} {Q : Exit → Act → World → Prop} {a : Act} {w : World} (h : c.wp P (noP Q) a w) : c.wp P Q a w :=
  Code.wp_mono (fun e a w h => by cases e <;> first | exact h | exact h.elim) h
theorem leaves_nil {P : Program} {fn : Func} {tmps : Array Value} {R : Ending → World → Prop} {w : World} {v : Value} (h1 : (results fn tmps).run P w = .ok v w) (h2 : R (.returned v) w) : Leaves P fn tmps R [] .returning w := ⟨v, h1, h2⟩
theorem kid_readK {W0 : World} {p B : Nat} {ks : List Tr} {ka : Option Addr} {kn kc : Nat} (hkv : SlR W0 B 1 IsI (.slice ka kn kc) ((placesL ks p).map fun n : Nat => (n : Int))) {j q : Nat} (hq : (placesL ks p)[j]? = some q) : ∃ kbk ko, ka = some ⟨kbk, ko, none⟩ ∧ ∀ w, Below B W0 w → w.cell? ⟨kbk, ko + j, none⟩ = some (.int .i64 (q : Int)) := by
  have hq' : ((placesL ks p).map fun n : Nat => (n : Int))[j]? = some (q : Int) := by rw [List.getElem?_map, hq]; rfl
  obtain ⟨b, off, x, e1, hbB, hxl, rfl, hx⟩ := hkv.at_ hq'
  subst e1
  exact ⟨b, off, rfl, fun w hb => rkid_cell hkv hq hb⟩
set_option maxRecDepth 100000 in
set_option maxHeartbeats 8000000 in
theorem nodep_gen {l : List ND} {lv : Value} {W0 : World} {C g bm kb fm f k p : Nat} {s : List Nat} {n : Int} {ks : List Tr} {vs : List (List Nat)} {W : World} {nb nf : Nat} {K : List Int} {F : List (List Nat)} (ih : NodeIsK l lv W0 C g bm kb fm f) (H : NPk l lv W0 C g bm kb fm (f + 1) (.node k s n ks) p vs W nb nf K F) (hk7 : k ≠ 7) (hk31 : k < 31) : Calls Tryz.prog 25 #[.pointer (some ⟨g, 0, none⟩), .int .i64 (p : Int)] W (NodeW W C g bm kb fm lv (f + 1) (.node k s n ks) p vs nb nf K F) := by
  obtain ⟨hd, hks⟩ := stands_node H.un.stands
  obtain ⟨la, lc, rfl, _, _⟩ := H.hs.form
  have hpl := (List.getElem?_eq_some_iff.1 hd).1
  obtain ⟨nl, hnl⟩ : ∃ z, l.length = z := ⟨_, rfl⟩
  have hok := H.hok _ (List.mem_iff_getElem?.2 ⟨p, hd⟩)
  rw [hnl] at H hpl ih ⊢
  have hB6 := H.hw.alloc H.hw.size (.cells #[.pointer (some ⟨g, 0, none⟩)] 48)
  obtain ⟨b, off, x, rfl, hbB, hxl, ⟨kv, rfl, hkv⟩, hx⟩ := (H.hs.below hB6).at_ hd
  obtain ⟨ka, kc, rfl, _, _⟩ := hkv.form
  simp only [List.length_map, places_len] at hkv hx

  have x0 := hx 0 _ rfl
  have x1 := hx 1 _ rfl
  have x2 := hx 2 _ rfl
  have x3 := hx 3 _ rfl
  simp only [Nat.add_zero] at x0
  have p0 : (0 : Int) ≤ (p : Int) := Int.natCast_nonneg _
  have p1 : (p : Int) < (nl : Int) := by omega
  have HH := Lib.hid H
  have HNL := Lib.hid hnl
  have HKV := Lib.hid hkv
  have IH := Lib.hid ih
  have HNM : Hid (NameOk s) := Lib.hid ⟨hok.1, hok.2.1⟩
  have HSH := Lib.hid H.good.1.1
  have hmf : ∀ (fn : Fn) (first cap : Array Value) (w : World), (Instr.makeFunc fn first cap).run Tryz.prog w = .ok (.func fn first cap) w := fun _ _ _ _ => rfl
  clear H hd hkv hx hxl hks hnl ih hok hB6
  go_enter_defers Tryz.func25, Tryz.ntmps25
  go_upto_region 1 with fail
  have BS1 : Hid (Blk (W.alloc (.cells #[.pointer (some ⟨g, 0, none⟩)] 48)) W.heap.size 48 #[.pointer (some ⟨g, 0, none⟩)]) := Lib.hid (Blk.new _ _ _)
  have M1 := Lib.hid (HH.out.ms.alloc (.cells #[.pointer (some ⟨g, 0, none⟩)] 48))
  have N1 : Hid (NK W (W.alloc (.cells #[.pointer (some ⟨g, 0, none⟩)] 48)) C bm kb fm) := Lib.hid (NK.of_below ((Below.refl _ _).alloc (Nat.le_refl _) _) HH.out.size)
  obtain ⟨sb, hsb⟩ : ∃ z, W.heap.size = z := ⟨_, rfl⟩
  generalize hW1 : W.alloc (.cells #[.pointer (some ⟨g, 0, none⟩)] 48) = W1 at *
  rw [hsb] at BS1 ⊢
  clear hW1 hsb
  have d0 : W1.cell? ⟨g, 0, none⟩ = some (.slice (some ⟨b, off, none⟩) nl lc) := M1.out.blk.cell rfl
  have s0 : W1.cell? ⟨sb, 0, none⟩ = some (.pointer (some ⟨g, 0, none⟩)) := BS1.out.cell rfl
  have ls : sb < W1.heap.size := BS1.out.lt
  have lg : g < W1.heap.size := M1.out.lt.1
  go_upto_region 3 with fail
  have BN2 : Hid (Blk (W1.alloc (.cells #[.int .i64 (k : Int), .string (txt s), .int .i64 n, .slice ka ks.length kc] 40)) W1.heap.size 40 #[.int .i64 (k : Int), .string (txt s), .int .i64 n, .slice ka ks.length kc]) := Lib.hid (Blk.new _ _ _)
  have BS2 := Lib.hid (BS1.out.alloc (.cells #[.int .i64 (k : Int), .string (txt s), .int .i64 n, .slice ka ks.length kc] 40))
  have M2 := Lib.hid (M1.out.alloc (.cells #[.int .i64 (k : Int), .string (txt s), .int .i64 n, .slice ka ks.length kc] 40))
  have N2 : Hid (NK W (W1.alloc (.cells #[.int .i64 (k : Int), .string (txt s), .int .i64 n, .slice ka ks.length kc] 40)) C bm kb fm) := Lib.hid (N1.out.trans (NK.of_below ((Below.refl _ _).alloc (Nat.le_refl _) _) (Nat.le_trans HH.out.size N1.out.bel.size)))
  obtain ⟨bn, hbn⟩ : ∃ z, W1.heap.size = z := ⟨_, rfl⟩
  generalize hW2 : W1.alloc (.cells #[.int .i64 (k : Int), .string (txt s), .int .i64 n, .slice ka ks.length kc] 40) = W2 at *
  rw [hbn] at BN2 ⊢
  clear hW2 hbn BS1 M1 N1 d0 s0 ls lg x0 x1 x2 x3
  have d0 : (W2).cell? ⟨g, 0, none⟩ = some (.slice (some ⟨b, off, none⟩) nl lc) := M2.out.blk.cell rfl
  have d1 : (W2).cell? ⟨g, 1, none⟩ = some (.map (some bm)) := M2.out.blk.cell rfl
  have d3 : (W2).cell? ⟨g, 3, none⟩ = some (.map (some fm)) := M2.out.blk.cell rfl
  have s0 : (W2).cell? ⟨sb, 0, none⟩ = some (.pointer (some ⟨g, 0, none⟩)) := BS2.out.cell rfl
  have n0 : (W2).cell? ⟨bn, 0, none⟩ = some (.int .i64 (k : Int)) := BN2.out.cell rfl
  have n1 : (W2).cell? ⟨bn, 1, none⟩ = some (.string (txt s)) := BN2.out.cell rfl
  have n2 : (W2).cell? ⟨bn, 2, none⟩ = some (.int .i64 n) := BN2.out.cell rfl
  have n3 : (W2).cell? ⟨bn, 3, none⟩ = some (.slice ka ks.length kc) := BN2.out.cell rfl
  have ls : sb < (W2).heap.size := BS2.out.lt
  have ln : bn < (W2).heap.size := BN2.out.lt
  have lg : g < (W2).heap.size := M2.out.lt.1
  have ek7 : ((k : Int) == 7) = false := by rw [beq_eq_false_iff_ne]; omega
  have hlk : decide (31 ≤ (k : Int) ∧ (k : Int) ≤ 34) = false := by simp; omega
  have LK := Lib.hid (loops_is (k : Int))
  rw [hlk] at LK
  have hdl := deep_one HH.out.deep
  have HDL := Lib.hid hdl
  have hks3 : ks.length ≤ 3 := by rcases shape_cases HSH.out with ⟨h, _⟩ | ⟨_, h, _⟩ | ⟨_, _, h, _⟩ | ⟨_, _, _, h, _⟩ <;> rw [h] <;> simp
  clear hlk hdl
  go_wp2_with fail
  go_loopw [6, 20] (fun v6 v20 wr => ∃ j : Nat, j ≤ ks.length ∧ v20 = .int .i64 (j : Int) ∧ v6 = .int .i64 (fstW f k s ks vs p j) ∧ Hid (∃ K1, KSt wr g bm kb fm (nb + 2 * sizeL (ks.take j)) (nf + sizeL (ks.take j)) (.slice (some ⟨b, off, none⟩) nl lc) K1 vs (fstF f k s ks vs F j) ∧ KJ f k s ks vs p j K K1 ∧ NK W wr C bm kb fm ∧ Blk wr sb 48 #[.pointer (some ⟨g, 0, none⟩)] ∧ Blk wr bn 40 #[.int .i64 (k : Int), .string (txt s), .int .i64 n, .slice ka ks.length kc] ∧ sb ≠ bm ∧ sb ≠ kb ∧ sb ≠ fm ∧ bn ≠ bm ∧ bn ≠ kb ∧ bn ≠ fm)) (fun _ v20 _ => ks.length - (intOf v20).toNat)
  case atStart => exact ⟨0, Nat.zero_le _, rfl, rfl, Lib.hid ⟨K, by simpa [sizeL, fstF] using M2.out, KJ.zero _ _ _ _ _ _ _, N2.out, BS2.out, BN2.out, map_blk_ne M2.out.bnd BS2.out, BS2.out.differ M2.out.kin (by decide), map_blk_ne M2.out.fre.is BS2.out, map_blk_ne M2.out.bnd BN2.out, BN2.out.differ M2.out.kin (by decide), map_blk_ne M2.out.fre.is BN2.out⟩⟩
  case round =>
    obtain ⟨j, hj, rfl, rfl, hr⟩ := hrel
    obtain ⟨K1, m1, kj, nk1, bs1, bn1, ne1, ne2, ne3, ne4, ne5, ne6⟩ := hr.out
    have M3 := Lib.hid m1
    have J3 := Lib.hid kj
    have N3 := Lib.hid nk1
    have BS3 := Lib.hid bs1
    have BN3 := Lib.hid bn1
    have NE := Lib.hid (And.intro (And.intro ne1 (And.intro ne2 ne3)) (And.intro ne4 (And.intro ne5 ne6)))
    clear hr m1 kj nk1 bs1 bn1 ne1 ne2 ne3 ne4 ne5 ne6 M2 N2 BS2 BN2
    clear d0 d1 d3 s0 n0 n1 n2 n3 ls ln lg
    have d0 : (wr).cell? ⟨g, 0, none⟩ = some (.slice (some ⟨b, off, none⟩) nl lc) := M3.out.blk.cell rfl
    have d1 : (wr).cell? ⟨g, 1, none⟩ = some (.map (some bm)) := M3.out.blk.cell rfl
    have d3 : (wr).cell? ⟨g, 3, none⟩ = some (.map (some fm)) := M3.out.blk.cell rfl
    have s0 : (wr).cell? ⟨sb, 0, none⟩ = some (.pointer (some ⟨g, 0, none⟩)) := BS3.out.cell rfl
    have n0 : (wr).cell? ⟨bn, 0, none⟩ = some (.int .i64 (k : Int)) := BN3.out.cell rfl
    have n1 : (wr).cell? ⟨bn, 1, none⟩ = some (.string (txt s)) := BN3.out.cell rfl
    have n2 : (wr).cell? ⟨bn, 2, none⟩ = some (.int .i64 n) := BN3.out.cell rfl
    have n3 : (wr).cell? ⟨bn, 3, none⟩ = some (.slice ka ks.length kc) := BN3.out.cell rfl
    have ls : sb < (wr).heap.size := BS3.out.lt
    have ln : bn < (wr).heap.size := BN3.out.lt
    have lg : g < (wr).heap.size := M3.out.lt.1
    obtain ⟨fw, hfw⟩ : ∃ z, fstW f k s ks vs p j = z := ⟨_, rfl⟩
    have HFW := Lib.hid hfw
    rw [hfw]
    clear hfw
    by_cases hlt : j < ks.length
    · obtain ⟨t, ht⟩ : ∃ t, ks[j]? = some t := ⟨_, List.getElem?_eq_getElem hlt⟩
      obtain ⟨q, hq⟩ : ∃ q, (placesL ks (p + 1))[j]? = some q := ⟨_, places_get hlt⟩
      obtain ⟨kbk, ko, rfl, hkc⟩ := kid_readK HKV.out hq
      have xk := hkc wr (HH.out.hw.trans (N3.out.bel.mono HH.out.hC))
      have hvs : vsK k s vs j = vs := by unfold vsK; rw [if_neg (by omega)]
      have PK := Lib.hid (NPk.kid HH.out ht hq N3.out hvs.symm M3.out (by rw [J3.out.len]) (by omega) (Nat.le_refl _))
      have hwj : fstW f k s ks vs p (j + 1) = if fw < 0 then wR f t vs q else fw := by
        simp only [fstW]
        rw [HFW.out]
        unfold kidW
        rw [ht, hq]
        simp only [hvs]
      have hfj : fstF f k s ks vs F (j + 1) = frR f t vs (fstF f k s ks vs F j) := by
        simp only [fstF, kidF]
        rw [ht, hvs]
      have hsz := sizeL_take_succ ht
      have HT := Lib.hid (And.intro ht (And.intro hq (And.intro hvs (And.intro hwj (And.intro hfj hsz)))))
      have j0 : (0 : Int) ≤ (j : Int) := Int.natCast_nonneg _
      have j1 : (j : Int) < (ks.length : Int) := by omega
      clear ht hq hkc hvs hwj hfj hsz
      by_cases hj1 : j = 1
      all_goals
        first | have ej : ((j : Int) == 1) = true := by (rw [hj1]; rfl) | have ej : ((j : Int) == 1) = false := by (rw [beq_eq_false_iff_ne]; omega)
        by_cases hw0 : fw < 0
        all_goals
          first | have ew : decide (fw < 0) = true := by (simp; omega) | have ew : decide (fw < 0) = false := by (simp; omega)
          have tokN : True := trivial
          have tokL : True := trivial
          have HW0 := Lib.hid hw0
          clear hj1 hw0
          go_wp2_with (first
            | (have _t := tokL; go_at_call 36; go_must (refine (LK.out _).mono ?_); clear tokL _t; rintro e w' ⟨rfl, rfl⟩)
            | (have _t := tokN; go_at_call 25; go_must (refine (IH.out t q vs wr _ _ _ _ PK.out).mono ?_); clear tokN _t
               rintro e w5 ⟨rfl, K2, hm, hkp, hnk⟩
               go_must (have M5 := Lib.hid hm)
               go_must (have J5 := Lib.hid (KJ.step HDL.out J3.out HT.out.1 HT.out.2.1 (by rw [HT.out.2.2.1]; exact hkp)))
               go_must (have N5 := Lib.hid (N3.out.trans hnk))
               go_must (have BS5 := Lib.hid (hnk.blk BS3.out NE.out.1.1 NE.out.1.2.1 NE.out.1.2.2))
               go_must (have BN5 := Lib.hid (hnk.blk BN3.out NE.out.2.1 NE.out.2.2.1 NE.out.2.2.2))
               clear hm hkp hnk)
            | fail)
          go_roundw
          case rel =>
            refine ⟨j + 1, by omega, by go_num, ?_, Lib.hid ⟨K2, ?_, J5.out, N5.out, BS5.out, BN5.out, NE.out.1.1, NE.out.1.2.1, NE.out.1.2.2, NE.out.2.1, NE.out.2.2.1, NE.out.2.2.2⟩⟩
            · rw [HT.out.2.2.2.1]
              first | rw [if_pos HW0.out] | rw [if_neg (by have := HW0.out; omega)]
            · rw [HT.out.2.2.2.2.1]
              exact M5.out.mono (by have := HT.out.2.2.2.2.2; omega) (by have := HT.out.2.2.2.2.2; omega)
          case measure => simp [intOf]; omega
    · have hjn : j = ks.length := by omega
      subst hjn
      rw [List.take_length] at M3
      clear hlt hj
      obtain ⟨F1, hF1⟩ : ∃ z, fstF f k s ks vs F ks.length = z := ⟨_, rfl⟩
      rw [hF1] at M3
      have hfr : frR (f + 1) (.node k s n ks) vs F = F1 := by rw [frR_succ, if_neg (by omega), hF1]
      have HFR := Lib.hid hfr
      have hszn : (Tr.node k s n ks).size = 1 + sizeL ks := by simp only [Tr.size]
      have HSZ := Lib.hid hszn
      clear hF1 hfr hszn
      go_upto_region 13 with fail
      go_quiet (fail)
      have M4 := Lib.hid (M3.out.drewN nq)
      have N4 : Hid (NK W (wr.drewN nq) C bm kb fm) := Lib.hid (N3.out.trans (NK.of_below (below_drewN (Below.refl _ _) nq) (Nat.le_trans HH.out.size N3.out.bel.size)))
      have BS4 := Lib.hid (Blk.drwN' BS3.out nq)
      have BN4 := Lib.hid (Blk.drwN' BN3.out nq)
      generalize wr.drewN nq = w4 at *
      clear d0 d1 d3 s0 n0 n1 n2 n3 ls ln lg
      clear M3 N3 BS3 BN3
      have d0 : (w4).cell? ⟨g, 0, none⟩ = some (.slice (some ⟨b, off, none⟩) nl lc) := M4.out.blk.cell rfl
      have d1 : (w4).cell? ⟨g, 1, none⟩ = some (.map (some bm)) := M4.out.blk.cell rfl
      have d3 : (w4).cell? ⟨g, 3, none⟩ = some (.map (some fm)) := M4.out.blk.cell rfl
      have s0 : (w4).cell? ⟨sb, 0, none⟩ = some (.pointer (some ⟨g, 0, none⟩)) := BS4.out.cell rfl
      have n0 : (w4).cell? ⟨bn, 0, none⟩ = some (.int .i64 (k : Int)) := BN4.out.cell rfl
      have n1 : (w4).cell? ⟨bn, 1, none⟩ = some (.string (txt s)) := BN4.out.cell rfl
      have n2 : (w4).cell? ⟨bn, 2, none⟩ = some (.int .i64 n) := BN4.out.cell rfl
      have n3 : (w4).cell? ⟨bn, 3, none⟩ = some (.slice ka ks.length kc) := BN4.out.cell rfl
      have ls : sb < (w4).heap.size := BS4.out.lt
      have ln : bn < (w4).heap.size := BN4.out.lt
      have lg : g < (w4).heap.size := M4.out.lt.1
      by_cases hw0 : 0 ≤ fw
      · have ew : decide (0 ≤ fw) = true := by simp; omega
        have HW0 := Lib.hid hw0
        clear hw0
        go_wp2_with fail
        show Leaves Tryz.prog Tryz.f25 _ _ _ _ _
        refine leaves_nil (results_tmp rfl _ _ _) ?_
        refine ⟨by rw [wR_succ, HFW.out, if_pos HW0.out]; try rfl, K1, ?_, KJ.wrong J3.out (by rw [HFW.out]; exact HW0.out), N4.out⟩
        rw [HFR.out, HSZ.out]
        exact M4.out.mono (by (try simp only [sizeL]); omega) (by (try simp only [sizeL]); omega)
      · have ew : decide (0 ≤ fw) = false := by simp; omega
        have hlen := J3.out.len
        have hkl := HH.out.kl
        rw [HNL.out] at hkl
        obtain ⟨nK, hnK⟩ : ∃ z, K1.length = z := ⟨_, rfl⟩
        have d2 : w4.cell? ⟨g, 2, none⟩ = some (.slice (some ⟨kb, 0, none⟩) nK nK) := by rw [← hnK]; exact M4.out.blk.cell rfl
        have pK : (p : Int) < (nK : Int) := by omega
        have pK' : p < K1.length := by omega
        obtain ⟨u0, hu0⟩ : ∃ u, K1[p]? = some u := ⟨_, List.getElem?_eq_getElem pK'⟩
        have y0 := M4.out.cell hu0
        have yf := M4.out.kin.frozen p
        have hwneg : fstW f k s ks vs p (ks).length < 0 := by rw [HFW.out]; omega
        have hkr := kR_prog HSH.out HH.out.deep hwneg
        obtain ⟨kr, hkrr⟩ : ∃ z, kR (f + 1) (.node k s n ks) vs = z := ⟨_, rfl⟩
        rw [hkrr] at hkr
        have hk34 : 1 ≤ k ∧ k ≤ 34 := by rcases shape_cases HSH.out with ⟨_, h⟩ | ⟨_, _, h⟩ | ⟨_, _, _, h⟩ | ⟨_, _, _, _, h⟩ <;> omega
        have htk4 : ∀ w', Below w4.heap.size w4 w' → TakesB w' := fun w' hb => by
          obtain ⟨t0, fr0, e0⟩ := HH.out.tk
          have h0 : 0 < W0.heap.size := by rcases Nat.lt_or_ge 0 W0.heap.size with h | h; exact h; rw [Array.getElem?_eq_none h] at e0; cases e0
          exact TakesB.block ⟨t0, fr0, e0⟩ ((HH.out.hw.trans ((N4.out.bel.mono HH.out.hC).trans (hb.mono (by have := HH.out.hw.size; have := N4.out.bel.size; omega)))).block 0 h0)
        have KC : Hid (∀ w', Below w4.heap.size w4 w' → Calls Tryz.prog 38 #[.pointer (some ⟨g, 0, none⟩), .agg #[.int .i64 (k : Int), .string (txt s), .int .i64 n, .slice ka ks.length kc]] w' fun e w'' => e = .returned (.int .i64 kr) ∧ Below w'.heap.size w' w'') := Lib.hid (fun w' hb => by
          have hkvw : SlR w' w'.heap.size 1 IsI (.slice ka ks.length kc) ((placesL ks (p + 1)).map fun n : Nat => (n : Int)) := ((HKV.out.below (HH.out.hw.trans (N4.out.bel.mono HH.out.hC))).below (hb.mono (by have := HH.out.hw.size; have := N4.out.bel.size; omega))).more (by have := HH.out.hw.size; have := N4.out.bel.size; have := hb.size; omega)
          have := kindp_any (k := k) (s := s) (n := n) (nk := ks.length) hk34 (M4.out.below hb) (htk4 w' hb) HNM.out hkvw (by rw [places_len]; try rfl) hks3 (kidK f k s ks vs) (fun i q hq => J3.out.kid HDL.out hwneg hq) (fun i hi => by unfold kidK; rw [List.getElem?_eq_none hi])
          rw [← hkr] at this
          exact this)
        have HU0 := Lib.hid hu0
        have HKR := Lib.hid hkrr
        have HNK := Lib.hid hnK
        have HWN := Lib.hid hwneg
        have HPK := Lib.hid pK'
        clear hw0 hlen hkl hnK hu0 hwneg hkr hkrr htk4 hk34 pK'
        by_cases hk0 : kr = 0
        all_goals
          first | have ek : (kr == 0) = true := by (rw [hk0]; rfl) | have ek : (kr == 0) = false := by (simpa using hk0)
          have HK0 := Lib.hid hk0
          clear hk0
          have tokK : True := trivial
          go_upto_region 17 with fail
          refine wp_np ?_
          go_region_law (first
            | (have _t := tokK; go_simp; go_at_call 38; go_must (refine (KC.out _ ((Below.refl w4.heap.size w4).drew)).mono ?_); clear tokK _t
               rintro e w5 ⟨rfl, hb⟩
               go_must (have hb2 : Below w4.heap.size w4 w5 := ((Below.refl w4.heap.size w4).drew).trans hb)
               go_must (have M5 := Lib.hid (M4.out.below hb2))
               go_must (have N5 : Hid (NK W w5 C bm kb fm) := Lib.hid (N4.out.trans (NK.of_below hb2 (Nat.le_trans HH.out.size N4.out.bel.size))))
               go_must (have BS5 := Lib.hid (BS4.out.below hb2 BS4.out.lt))
               go_must (have BN5 := Lib.hid (BN4.out.below hb2 BN4.out.lt))
               go_must (have e0 : w5.cell? ⟨g, 2, none⟩ = some (.slice (some ⟨kb, 0, none⟩) nK nK) := by rw [← HNK.out]; exact M5.out.blk.cell rfl)
               go_must (have e1 : w5.cell? ⟨kb, p, none⟩ = some (.int .i64 u0) := M5.out.cell HU0.out)
               go_must (have e2 : w5.frozen? ⟨kb, p, none⟩ = false := M5.out.kin.frozen p)
               go_must (have e3 : w5.cell? ⟨sb, 0, none⟩ = some (.pointer (some ⟨g, 0, none⟩)) := BS5.out.cell rfl)
               clear hb hb2)
            | fail)
          all_goals
            generalize hW6 : World.setCell _ _ _ = W6
            have M6 : Hid (KSt W6 g bm kb fm (nb + 2 * sizeL ks) (nf + sizeL ks) (.slice (some ⟨b, off, none⟩) nl lc) (K1.set p kr) vs F1) := Lib.hid (by rw [← hW6]; exact M5.out.kind p kr)
            have N6 : Hid (NK W W6 C bm kb fm) := Lib.hid (N5.out.trans (by rw [← hW6]; exact NK.of_set p _ HH.out.ck))
            have g0 : W6.cell? ⟨g, 2, none⟩ = some (.slice (some ⟨kb, 0, none⟩) nK nK) := by rw [← HNK.out]; have := M6.out.blk.cell (i := 2) rfl; rwa [List.length_set] at this
            have g1 : W6.cell? ⟨kb, p, none⟩ = some (.int .i64 kr) := M6.out.cell (List.getElem?_set_self HPK.out)
            have g2 : W6.cell? ⟨sb, 0, none⟩ = some (.pointer (some ⟨g, 0, none⟩)) := by
              rw [← hW6]
              exact (BS5.out.far (p := ⟨kb, p, none⟩) NE.out.1.2.1 _).cell rfl
            clear hW6
            simp only [noP]
            go_wp2_with fail
            show Leaves Tryz.prog Tryz.f25 _ _ _ _ _
            refine leaves_nil (results_tmp rfl _ _ _) ?_
            refine ⟨?_, K1.set p kr, ?_, by rw [← HKR.out]; exact KJ.right J3.out (by rw [← J3.out.len]; exact HPK.out) HWN.out, N6.out⟩
            · rw [wR_succ, HKR.out, if_neg (by have := HWN.out; omega)]
              first | (rw [if_pos HK0.out]; try rfl) | (rw [if_neg HK0.out]; try rfl)
            · rw [HFR.out, HSZ.out]
              exact M6.out.mono (by (try simp only [sizeL]); omega) (by (try simp only [sizeL]); omega)

end Go.Proofs.YtidkbodmiegbkaaGreatDoor
