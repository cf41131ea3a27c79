/- - -/
import Derived.Test.YtpkggobhhieeoaaDoorKM13
import Derived.Test.YtpkggobhhieeoaaDoorKLROrd
set_option maxRecDepth 100000
set_option maxHeartbeats 32000000
set_option linter.unusedSimpArgs false
set_option linter.unusedVariables false
namespace Go.Proofs.YtpkggobhhieeoaaDoor
open Go.RowKit
theorem rparse_any (s : ByteArray) (hs : s.size ≤ maxLen) (w : World) : Calls Tryd.prog 34 #[.string s] w (ParseIs w (parseN (bs s))) := by
  have HS := zH (fun W => rscan_any s hs W)
  have B0 : Hid (Below w.heap.size w (w.alloc (.cells #[.slice none 0 0] 69))) := zH (zB.alloc zL _)
  have X0 : Hid (Blk (w.alloc (.cells #[.slice none 0 0] 69)) w.heap.size 69 #[.slice none 0 0]) := zH (Blk.new _ _ _)
  obtain ⟨R, hR⟩ : ∃ R, scanN (bs s) = R := ⟨_, rfl⟩
  by_cases he : R.2.2 = 0
  · have hgd := scan_good (bs_bytes s) (by rw [hR]; exact he)
    have hpl := scan_place (l := bs s)
    rw [hR] at hgd hpl HS
    obtain ⟨toks, at_, err⟩ := R
    simp only at he hgd hpl
    subst he
    obtain ⟨hgood, hfew, hs4⟩ := hgd
    obtain ⟨R2, hR2⟩ : ∃ R2, parseN (bs s) = R2 := ⟨_, rfl⟩
    rw [hR2]
    obtain ⟨sz, hsz⟩ : ∃ z, s.size = z := ⟨_, rfl⟩
    have hbl : (bs s).length = sz := by rw [bs_len, hsz]
    have HGD := zH hgood
    have HPL := zH hpl
    have HFW := zH hfew
    have hsz5 : (sz : Int) ≤ 5000 := by rw [hbl] at hs4; omega
    have HSZ := zH hsz
    have hpn : ∀ r, pL toks (12 * toks.length + 10) 1 0 = r → R2 = (match r.bind (fun t i => if i < toks.length then PR.no i else .ok t i) with
        | .ok t _ => if 256 < t.size ∨ 32 < t.deep then ([], 0, 4) else (t.flat 0, 0, 0)
        | .no i => ([], (match toks[i]? with | some x => x.place.toNat | none => sz), 80)
        | .out => ([], 0, 0)) := by
      intro r hr
      rw [← hR2, ← hr]
      unfold parseN parseT
      rw [hR, if_neg (by simp)]
      simp only [hbl]
      rfl
    obtain ⟨r, hrr⟩ : ∃ r, pL toks (12 * toks.length + 10) 1 0 = r := ⟨_, rfl⟩
    have hin := parse_told toks
    rw [hrr] at hin
    have HR2 := zH (hpn r hrr)
    have HT : Hid (∀ (q : Nat) (a : Option Addr) (c : Nat) (X : World), RSt q a c sz toks 0 (-1) [] X → Calls Tryd.prog 46 #[.pointer (some ⟨q, 0, none⟩), .int .i64 1] X (RReads q a c sz toks 0 [] X r)) := zH (fun q a c X h => by rw [← hrr]; exact r_top h)
    clear hR hgood hpl hfew hR2 hbl hpn hrr
    have HP : Hid (∀ (w1 : World) (a : Option Addr) (n c : Nat), Own1 w1 (w.alloc (.cells #[.slice none 0 0] 69)).heap.size 110 4 Tok.Is (.slice a n c) toks → Below w.heap.size w w1 → Blk w1 w.heap.size 69 #[.slice none 0 0] →
        ∀ X1, X1 = w1.alloc (.cells #[.slice a n c, .int .i64 0, .int .i64 (sz : Int), .int .i64 (-1), .slice none 0 0] 86) →
        n = toks.length ∧ RSt w1.heap.size a c sz toks 0 (-1) [] X1 ∧ Blk X1 w.heap.size 69 #[.slice none 0 0] ∧ Below w.heap.size w X1 ∧ w.heap.size < w1.heap.size) := zH (fun w1 a n c hO hB hX X1 hX1 => by
      subst hX1
      obtain ⟨a', c', hform⟩ := hO.form
      injection hform with _ e2 _
      subst e2
      have ba := (Below.refl w1.heap.size w1).alloc zL (.cells #[.slice a toks.length c, .int .i64 0, .int .i64 (sz : Int), .int .i64 (-1), .slice none 0 0] 86)
      have hr := hO.read (by omega)
      have hsz' : sz ≤ 5000 := by omega
      exact ⟨rfl, ⟨hr.below ba, ⟨.slice none 0 0, Blk.new _ _ _, EL.nil _ _⟩, Nat.zero_le _, by have := HFW.out; omega, hsz', HGD.out, HPL.out⟩, hX.below ba hX.lt, hB.trans (ba.mono hB.size), hX.lt⟩)
    cases r with
    | out => exact absurd hin (by simp [PR.In])
    | no i =>
      have hres : R2 = ([], (match toks[i]? with | some x => x.place.toNat | none => sz), 80) := HR2.out
      obtain ⟨k, hk⟩ : ∃ k : Nat, placeAt toks sz i = (k : Int) ∧ (match toks[i]? with | some x => x.place.toNat | none => sz) = k := by
        unfold placeAt
        cases hx : toks[i]? with
        | none => exact ⟨sz, rfl, rfl⟩
        | some x =>
          have h0 := HPL.out x (List.mem_iff_getElem?.2 ⟨i, hx⟩)
          exact ⟨x.place.toNat, by simp only; omega, rfl⟩
      rw [hk.2] at hres
      subst hres
      have HK := zH hk.1
      clear hk hin HR2
      go_enter Tryd.func34, Tryd.ntmps34
      go_wp2_with (first
        | (go_at_call 45; refine (HS.out _).mono ?_; rintro e w1 ⟨a, n, c, rfl, hO, hB⟩; have X1 := zH (X0.out.below hB (by simp)); have B1 : Hid (Below w.heap.size w w1) := zH (B0.out.trans (hB.mono B0.out.size)); have O1 := zH hO; have c0 : w1.cell? ⟨w.heap.size, 0, none⟩ = some (.slice none 0 0) := X1.out.cell rfl; have z0 := X1.out.frozen 0; have lb := X1.out.lt; clear hO hB))
      generalize hwq : World.alloc w1 _ = W2
      obtain ⟨rfl, hp, hx, hb, lbw⟩ := HP.out w1 a n c O1.out B1.out X1.out W2 (by rw [← hwq])
      clear hwq c0 z0 lb O1 X1 B0 X0
      have P2 := zH hp
      have X2 := zH hx
      have B2 := zH hb
      have LBW := zH lbw
      clear hp hx hb lbw
      refine (HT.out _ _ _ _ P2.out).mono ?_
      rintro e w5 ⟨g, es5, i5', rfl, h2, h3, h4⟩
      rw [HK.out] at h3
      have P5 := zH h3
      obtain ⟨f0, f1, f2, f3, f4, f5, f6⟩ := h3.facts
      have X5 := zH (X2.out.below h2 LBW.out)
      have B5 : Hid (Below w.heap.size w w5) := zH (B2.out.trans (h2.mono (Nat.le_of_lt LBW.out)))
      have k0 : (0 : Int) ≤ (k : Int) := Int.natCast_nonneg _
      have dk : decide ((k : Int) < 0) = false := by simp
      have dk2 : decide ((0 : Int) ≤ (k : Int)) = true := by simp
      clear h2 h3 h4 X2 B2 P2 f2 HT HP HS HPL HGD
      go_wp2_with fail
      go_quiet (fail)
      rename_i nq
      have X6 : Hid (Blk (w5.drewN nq) w.heap.size 69 #[.slice none 0 0]) := zH (X5.out.below (below_drewN (Below.refl w5.heap.size w5) nq) X5.out.lt)
      have B6 : Hid (Below w.heap.size w (w5.drewN nq)) := zH (below_drewN B5.out nq)
      have P6 := zH (P5.out.quiet (⟨nq, rfl⟩ : Quiet w5 (w5.drewN nq)))
      generalize hwq : World.drewN w5 nq = W6
      rw [hwq] at P6 X6 B6
      clear hwq f0 f1 f3 f4 f5 f6
      obtain ⟨f0, f1, f2, f3, f4, f5, f6⟩ := P6.out.facts
      have c0 : W6.cell? ⟨w.heap.size, 0, none⟩ = some (.slice none 0 0) := X6.out.cell rfl
      have z0 := X6.out.frozen 0
      have lb := X6.out.lt
      clear f2
      go_wp2_with fail
      go_region
      generalize hwq : World.drew _ = W9
      have X9 : Blk ((W6).setCell ⟨w.heap.size, 0, none⟩ (.slice none 0 0)) w.heap.size 69 #[.slice none 0 0] := by have := X6.out.set_ 0 (.slice none 0 0); simpa using this
      have h9 : Blk W9 w.heap.size 69 #[.slice none 0 0] ∧ Below w.heap.size w W9 := by rw [← hwq]; exact ⟨X9.below (zB.drew) X9.lt, (B6.out.setCell (p := ⟨w.heap.size, 0, none⟩) zL _).drew⟩
      have c9 : W9.cell? ⟨w.heap.size, 0, none⟩ = some (.slice none 0 0) := h9.1.cell rfl
      have B9 := zH h9.2
      clear hwq X9 h9 c0 z0 lb f0 f1 f3 f4 f5 f6
      go_wp2_with fail
      refine bodyPost_ret (v := .tuple #[.agg #[.slice none 0 0], .int .i64 (k : Int), .int .i64 80]) (by simp [results, Tryd.results34, go_sem, c9]) rfl ?_
      exact ⟨.slice none 0 0, rfl, SlR.nil_ _ (by unfold maxLen; omega) _, B9.out⟩
    | ok t j =>
      obtain ⟨tl, htl⟩ : ∃ z, toks.length = z := ⟨_, rfl⟩
      have Htl := zH htl
      simp only [PR.In] at hin
      obtain ⟨hin1, hin2, hin3⟩ := hin
      have hfew5 := HFW.out
      rw [htl] at hin2 hfew5
      have j5 : (j : Int) ≤ 5000 := by omega
      have tl63 : tl ≤ 9223372036854775807 := by omega
      clear htl
      by_cases hlt : j < tl
      · obtain ⟨x, hx⟩ := get_some Htl.out hlt
        have hplx := HPL.out x (List.mem_iff_getElem?.2 ⟨j, hx⟩)
        obtain ⟨k, hk⟩ : ∃ k : Nat, x.place = (k : Int) := ⟨x.place.toNat, by omega⟩
        have hres : R2 = ([], k, 80) := by
          have h0 := HR2.out
          simp only [PR.bind] at h0
          rw [if_pos (by rw [Htl.out]; exact hlt)] at h0
          simp only [hx, hk, Int.toNat_natCast] at h0
          exact h0
        subst hres
        have HK : Hid (placeAt toks sz j = (k : Int)) := zH (by unfold placeAt; rw [hx]; exact hk)
        have dlt : decide (j < tl) = true := by simpa using hlt
        clear hx hplx hk hlt HR2
        go_enter Tryd.func34, Tryd.ntmps34
        go_wp2_with (first
          | (go_at_call 45; refine (HS.out _).mono ?_; rintro e w1 ⟨a, n, c, rfl, hO, hB⟩; have X1 := zH (X0.out.below hB (by simp)); have B1 : Hid (Below w.heap.size w w1) := zH (B0.out.trans (hB.mono B0.out.size)); have O1 := zH hO; have c0 : w1.cell? ⟨w.heap.size, 0, none⟩ = some (.slice none 0 0) := X1.out.cell rfl; have z0 := X1.out.frozen 0; have lb := X1.out.lt; clear hO hB))
        generalize hwq : World.alloc w1 _ = W2
        obtain ⟨rfl, hp, hx, hb, lbw⟩ := HP.out w1 a n c O1.out B1.out X1.out W2 (by rw [← hwq])
        clear hwq c0 z0 lb O1 X1 B0 X0
        have P2 := zH hp
        have X2 := zH hx
        have B2 := zH hb
        have LBW := zH lbw
        clear hp hx hb lbw
        refine (HT.out _ _ _ _ P2.out).mono ?_
        rintro e w5 ⟨g, es5, rfl, _, h2, h3, h4⟩
        have P5 := zH h3
        obtain ⟨f0, f1, f2, f3, f4, f5, f6⟩ := h3.facts
        rw [Htl.out] at f0 ⊢
        have X5 := zH (X2.out.below h2 LBW.out)
        have B5 : Hid (Below w.heap.size w w5) := zH (B2.out.trans (h2.mono (Nat.le_of_lt LBW.out)))
        have k0 : (0 : Int) ≤ (k : Int) := Int.natCast_nonneg _
        have dk : decide ((k : Int) < 0) = false := by simp
        have dk2 : decide ((0 : Int) ≤ (k : Int)) = true := by simp
        clear h2 h3 h4 X2 B2 P2 f2 HT HP HS HPL HGD
        go_wp2_with fail
        go_quiet (fail)
        rename_i nq
        have Q5 : Hid (Quiet w5 (w5.drewN nq)) := zH ⟨nq, rfl⟩
        clear f0 f1 f3 f4 f5 f6
        go_wp2_with (first
          | (go_at_call 47; refine (r_stop (P5.out.quiet Q5.out)).mono ?_; rintro e w6 ⟨rfl, h2, h3⟩; rw [HK.out] at h3; have M6 : Hid (Below w1.heap.size w5 w6) := zH ((Q5.out.below _).trans h2); obtain ⟨f0, f1, f2, f3, f4, f5, f6⟩ := h3.facts; clear h2 h3 f2; have X6 := zH (X5.out.below M6.out LBW.out); have B6 : Hid (Below w.heap.size w w6) := zH (B5.out.trans (M6.out.mono (Nat.le_of_lt LBW.out))); have c0 : w6.cell? ⟨w.heap.size, 0, none⟩ = some (.slice none 0 0) := X6.out.cell rfl; have z0 := X6.out.frozen 0; have lb := X6.out.lt))
        go_region
        generalize hwq : World.drew _ = W9
        have X9 : Blk ((w6).setCell ⟨w.heap.size, 0, none⟩ (.slice none 0 0)) w.heap.size 69 #[.slice none 0 0] := by have := X6.out.set_ 0 (.slice none 0 0); simpa using this
        have h9 : Blk W9 w.heap.size 69 #[.slice none 0 0] ∧ Below w.heap.size w W9 := by rw [← hwq]; exact ⟨X9.below (zB.drew) X9.lt, (B6.out.setCell (p := ⟨w.heap.size, 0, none⟩) zL _).drew⟩
        have c9 : W9.cell? ⟨w.heap.size, 0, none⟩ = some (.slice none 0 0) := h9.1.cell rfl
        have B9 := zH h9.2
        clear hwq X9 h9 c0 z0 lb f0 f1 f3 f4 f5 f6
        go_wp2_with fail
        refine bodyPost_ret (v := .tuple #[.agg #[.slice none 0 0], .int .i64 (k : Int), .int .i64 80]) (by simp [results, Tryd.results34, go_sem, c9]) rfl ?_
        exact ⟨.slice none 0 0, rfl, SlR.nil_ _ (by unfold maxLen; omega) _, B9.out⟩
      · have hjt : j = tl := by omega
        subst hjt
        clear hlt
        have hres : R2 = if 256 < t.size ∨ 32 < t.deep then ([], 0, 4) else (t.flat 0, 0, 0) := by
          have h0 := HR2.out
          simp only [PR.bind] at h0
          rw [if_neg (by rw [Htl.out]; omega)] at h0
          exact h0
        have dlt : decide (j < j) = false := by simp
        have HRES := zH hres
        have hsz5' : t.size ≤ 5000 := by omega
        have hdp5 : t.deep ≤ 5000 := by have := deep_le t; omega
        have HTS := zH hsz5'
        clear hres HR2
        go_enter Tryd.func34, Tryd.ntmps34
        go_wp2_with (first
          | (go_at_call 45; refine (HS.out _).mono ?_; rintro e w1 ⟨a, n, c, rfl, hO, hB⟩; have X1 := zH (X0.out.below hB (by simp)); have B1 : Hid (Below w.heap.size w w1) := zH (B0.out.trans (hB.mono B0.out.size)); have O1 := zH hO; have c0 : w1.cell? ⟨w.heap.size, 0, none⟩ = some (.slice none 0 0) := X1.out.cell rfl; have z0 := X1.out.frozen 0; have lb := X1.out.lt; clear hO hB))
        generalize hwq : World.alloc w1 _ = W2
        obtain ⟨rfl, hp, hx, hb, lbw⟩ := HP.out w1 a n c O1.out B1.out X1.out W2 (by rw [← hwq])
        clear hwq c0 z0 lb O1 X1 B0 X0
        have P2 := zH hp
        have X2 := zH hx
        have B2 := zH hb
        have LBW := zH lbw
        clear hp hx hb lbw
        refine (HT.out _ _ _ _ P2.out).mono ?_
        rintro e w5 ⟨g, es5, rfl, hrep, h2, h3, h4⟩
        rw [List.nil_append] at hrep h3
        obtain ⟨mv, hbox, hel⟩ := h3.box
        obtain ⟨ma, mc, rfl⟩ := hel.main.form
        have hrd := hel.read
        obtain ⟨f0, f1, f2, f3, f4, f5, f6⟩ := h3.facts
        have f7 : w5.cell? ⟨w1.heap.size, 4, none⟩ = some (.slice ma es5.length mc) := hbox.cell rfl
        rw [Htl.out] at f0 ⊢
        have X5 := zH (X2.out.below h2 LBW.out)
        have B5 : Hid (Below w.heap.size w w5) := zH (B2.out.trans (h2.mono (Nat.le_of_lt LBW.out)))
        have RD := zH hrd
        have RP := zH hrep
        clear h2 h3 h4 X2 B2 P2 f2 HT HP HS HPL HGD hrep hrd hel hbox
        go_wp2_with fail
        go_quiet (fail)
        rename_i nq
        have Q5 : Hid (Quiet w5 (w5.drewN nq)) := zH ⟨nq, rfl⟩
        have HFL := zH (r_order w5 ma es5.length mc (es5.map (·.1)) RD.out t.size t g (w5.drewN nq) (.slice none 0 0) [] zL RP.out (Q5.out.below _) (EL.nil _ _) (by simpa using HTS.out))
        obtain ⟨dp, hdp⟩ : ∃ z, t.deep = z := ⟨_, rfl⟩
        obtain ⟨n6, hn6⟩ : ∃ z, t.size = z := ⟨_, rfl⟩
        rw [hdp, hn6] at HRES
        rw [hdp] at hdp5
        rw [hn6] at hsz5'
        have HDP := zH hdp
        have HN6 := zH hn6
        have d63 : (dp : Int) ≤ 5000 := by omega
        have n63 : (n6 : Int) ≤ 5000 := by omega
        clear hdp hn6 HTS
        by_cases hbig : 256 < n6 ∨ 32 < dp
        · have hr := HRES.out
          rw [if_pos hbig] at hr
          subst hr
          rcases (show 256 < n6 ∨ (¬ 256 < n6 ∧ 32 < dp) by omega) with hb1 | ⟨hb1, hb2⟩
          · have d1 : decide (256 < n6) = true := by simpa using hb1
            have d1' : decide ((256 : Int) < (n6 : Int)) = true := by simp; omega
            clear hbig hb1
            go_wp2_with (first
              | (go_at_call 48; refine HFL.out.mono ?_; rintro e w6 ⟨v6, es6, rfl, hE6, hm6, hB6, _⟩; rw [List.nil_append] at hE6; obtain ⟨a6, c6, rfl⟩ := hE6.main.form; have hl6 : es6.length = n6 := by have := congrArg List.length hm6; rw [List.length_map, trFlat_len, HN6.out] at this; exact this
                 rw [hl6] at hE6 ⊢; rw [HDP.out]; have E6 := zH hE6; have HM6 : Hid (es6.map (·.1) = t.flat 0) := zH hm6; have X6 := zH (X5.out.below ((Q5.out.below w5.heap.size).trans hB6) X5.out.lt); have B6 : Hid (Below w.heap.size w w6) := zH ((B5.out.trans (Q5.out.below _)).trans (hB6.mono (Nat.le_of_lt X5.out.lt))); have c0 : w6.cell? ⟨w.heap.size, 0, none⟩ = some (.slice none 0 0) := X6.out.cell rfl; have z0 := X6.out.frozen 0; have lb := X6.out.lt
                 clear hE6 hm6 hB6 hl6))
            generalize hwq : World.setCell _ _ _ = W9
            have X9 : Blk ((w6).setCell ⟨w.heap.size, 0, none⟩ (.slice none 0 0)) w.heap.size 69 #[.slice none 0 0] := by have := X6.out.set_ 0 (.slice none 0 0); simpa using this
            have h9 : Blk W9 w.heap.size 69 #[.slice none 0 0] ∧ Below w.heap.size w W9 := by rw [← hwq]; exact ⟨X9, (B6.out.setCell (p := ⟨w.heap.size, 0, none⟩) zL _)⟩
            have c9 : W9.cell? ⟨w.heap.size, 0, none⟩ = some (.slice none 0 0) := h9.1.cell rfl
            have B9 := zH h9.2
            clear hwq X9 h9
            refine bodyPost_ret (v := .tuple #[.agg #[.slice none 0 0], .int .i64 0, .int .i64 4]) (by simp [results, Tryd.results34, go_sem, c9]) rfl ?_
            exact ⟨.slice none 0 0, rfl, SlR.nil_ _ (by unfold maxLen; omega) _, B9.out⟩
          · have d1 : decide (256 < n6) = false := by simpa using hb1
            have d1' : decide ((256 : Int) < (n6 : Int)) = false := by simp; omega
            have d2 : decide (32 < dp) = true := by simpa using hb2
            have d2' : decide ((32 : Int) < (dp : Int)) = true := by simp; omega
            clear hbig hb1 hb2
            go_wp2_with (first
              | (go_at_call 48; refine HFL.out.mono ?_; rintro e w6 ⟨v6, es6, rfl, hE6, hm6, hB6, _⟩; rw [List.nil_append] at hE6; obtain ⟨a6, c6, rfl⟩ := hE6.main.form; have hl6 : es6.length = n6 := by have := congrArg List.length hm6; rw [List.length_map, trFlat_len, HN6.out] at this; exact this
                 rw [hl6] at hE6 ⊢; rw [HDP.out]; have E6 := zH hE6; have HM6 : Hid (es6.map (·.1) = t.flat 0) := zH hm6; have X6 := zH (X5.out.below ((Q5.out.below w5.heap.size).trans hB6) X5.out.lt); have B6 : Hid (Below w.heap.size w w6) := zH ((B5.out.trans (Q5.out.below _)).trans (hB6.mono (Nat.le_of_lt X5.out.lt))); have c0 : w6.cell? ⟨w.heap.size, 0, none⟩ = some (.slice none 0 0) := X6.out.cell rfl; have z0 := X6.out.frozen 0; have lb := X6.out.lt
                 clear hE6 hm6 hB6 hl6))
            generalize hwq : World.setCell _ _ _ = W9
            have X9 : Blk ((w6).setCell ⟨w.heap.size, 0, none⟩ (.slice none 0 0)) w.heap.size 69 #[.slice none 0 0] := by have := X6.out.set_ 0 (.slice none 0 0); simpa using this
            have h9 : Blk W9 w.heap.size 69 #[.slice none 0 0] ∧ Below w.heap.size w W9 := by rw [← hwq]; exact ⟨X9, (B6.out.setCell (p := ⟨w.heap.size, 0, none⟩) zL _)⟩
            have c9 : W9.cell? ⟨w.heap.size, 0, none⟩ = some (.slice none 0 0) := h9.1.cell rfl
            have B9 := zH h9.2
            clear hwq X9 h9
            refine bodyPost_ret (v := .tuple #[.agg #[.slice none 0 0], .int .i64 0, .int .i64 4]) (by simp [results, Tryd.results34, go_sem, c9]) rfl ?_
            exact ⟨.slice none 0 0, rfl, SlR.nil_ _ (by unfold maxLen; omega) _, B9.out⟩
        · have hr := HRES.out
          rw [if_neg hbig] at hr
          subst hr
          have hb1 : ¬ 256 < n6 := by omega
          have hb2 : ¬ 32 < dp := by omega
          have d1 : decide (256 < n6) = false := by simpa using hb1
          have d1' : decide ((256 : Int) < (n6 : Int)) = false := by simp; omega
          have d2 : decide (32 < dp) = false := by simpa using hb2
          have d2' : decide ((32 : Int) < (dp : Int)) = false := by simp; omega
          clear hbig hb1 hb2
          go_wp2_with (first
            | (go_at_call 48; refine HFL.out.mono ?_; rintro e w6 ⟨v6, es6, rfl, hE6, hm6, hB6, _⟩; rw [List.nil_append] at hE6; obtain ⟨a6, c6, rfl⟩ := hE6.main.form; have hl6 : es6.length = n6 := by have := congrArg List.length hm6; rw [List.length_map, trFlat_len, HN6.out] at this; exact this
               rw [hl6] at hE6 ⊢; rw [HDP.out]; have E6 := zH hE6; have HM6 : Hid (es6.map (·.1) = t.flat 0) := zH hm6; have X6 := zH (X5.out.below ((Q5.out.below w5.heap.size).trans hB6) X5.out.lt); have B6 : Hid (Below w.heap.size w w6) := zH ((B5.out.trans (Q5.out.below _)).trans (hB6.mono (Nat.le_of_lt X5.out.lt))); have c0 : w6.cell? ⟨w.heap.size, 0, none⟩ = some (.slice none 0 0) := X6.out.cell rfl; have z0 := X6.out.frozen 0; have lb := X6.out.lt
               clear hE6 hm6 hB6 hl6))
          generalize hwq : World.setCell _ _ _ = W9
          have X9 : Blk ((w6).setCell ⟨w.heap.size, 0, none⟩ (.slice a6 n6 c6)) w.heap.size 69 #[.slice a6 n6 c6] := by have := X6.out.set_ 0 (.slice a6 n6 c6); simpa using this
          have h9 : Blk W9 w.heap.size 69 #[.slice a6 n6 c6] ∧ Below w.heap.size w W9 := by rw [← hwq]; exact ⟨X9, (B6.out.setCell (p := ⟨w.heap.size, 0, none⟩) zL _)⟩
          have c9 : W9.cell? ⟨w.heap.size, 0, none⟩ = some (.slice a6 n6 c6) := h9.1.cell rfl
          have B9 := zH h9.2
          have E9 : EL W9 w5.heap.size (.slice a6 n6 c6) es6 := by rw [← hwq]; exact ⟨E6.out.main.setFar (by exact X5.out.lt) _, fun i x hx => (E6.out.kids i x hx).setFar (by exact X5.out.lt) _, E6.out.apart⟩
          have hrd := E9.read
          rw [HM6.out] at hrd
          clear hwq X9 h9
          refine bodyPost_ret (v := .tuple #[.agg #[.slice a6 n6 c6], .int .i64 0, .int .i64 0]) (by simp [results, Tryd.results34, go_sem, c9]) rfl ?_
          exact ⟨.slice a6 n6 c6, rfl, hrd, B9.out⟩
  · have hp : parseN (bs s) = ([], R.2.1, R.2.2) := by unfold parseN; rw [hR, if_pos he]
    rw [hp]
    clear hp
    rw [hR] at HS
    obtain ⟨toks, at_, err⟩ := R
    simp only at he ⊢
    have e1 : ((err : Int) != 0) = true := by simp; omega
    have e2 : ¬ (err : Int) = 0 := by omega
    clear he hR
    go_enter Tryd.func34, Tryd.ntmps34
    go_wp2_with (first
      | (go_at_call 45; refine (HS.out _).mono ?_; rintro e w1 ⟨a, n, c, rfl, hO, hB⟩; have X1 := zH (X0.out.below hB (by simp)); have B1 : Hid (Below w.heap.size w w1) := zH (B0.out.trans (hB.mono B0.out.size)); have O1 := zH hO; have c0 : w1.cell? ⟨w.heap.size, 0, none⟩ = some (.slice none 0 0) := X1.out.cell rfl; have z0 := X1.out.frozen 0; have lb := X1.out.lt; clear hO hB))
    have X6 := X1
    have B6 := B1
    generalize hwq : World.setCell _ _ _ = W9
    have X9 : Blk ((w1).setCell ⟨w.heap.size, 0, none⟩ (.slice none 0 0)) w.heap.size 69 #[.slice none 0 0] := by have := X6.out.set_ 0 (.slice none 0 0); simpa using this
    have h9 : Blk W9 w.heap.size 69 #[.slice none 0 0] ∧ Below w.heap.size w W9 := by rw [← hwq]; exact ⟨X9, (B6.out.setCell (p := ⟨w.heap.size, 0, none⟩) zL _)⟩
    have c9 : W9.cell? ⟨w.heap.size, 0, none⟩ = some (.slice none 0 0) := h9.1.cell rfl
    have B9 := zH h9.2
    clear hwq X9 h9
    refine bodyPost_ret (v := .tuple #[.agg #[.slice none 0 0], .int .i64 (at_ : Int), .int .i64 (err : Int)]) (by simp [results, Tryd.results34, go_sem, c9]) rfl ?_
    exact ⟨.slice none 0 0, rfl, SlR.nil_ _ (by unfold maxLen; omega) _, B9.out⟩
end Go.Proofs.YtpkggobhhieeoaaDoor
