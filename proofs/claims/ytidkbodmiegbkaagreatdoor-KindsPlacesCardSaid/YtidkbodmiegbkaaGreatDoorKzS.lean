/- Chapter 09, outright: placed, walked. -/
import Derived.Test.YtidkbodmiegbkaaGreatDoorKzO
import Derived.Test.YtidkbodmiegbkaaGreatDoorKzF
namespace Go.Proofs.YtidkbodmiegbkaaGreatDoor
set_option linter.unusedSimpArgs false
set_option linter.unusedVariables false
open Go.RowKit

theorem sh_part (v : Tr) (i : Nat) : ndsT v i = (ndsT v 0).map (shD 0 (i : Int)) := by
  rw [sh_all (fr := 0) (m := (i : Int)) (ndsT v 0) (fun d hd x hx => by have := kids_under v 0 d hd x hx; omega), nds_forth, Nat.zero_add]
set_option maxRecDepth 100000 in
set_option maxHeartbeats 32000000 in
theorem placed_any {t v u : Tr} {ve vf : Value} {i : Nat} (w w0 : World) (hs : SlR w0 w0.heap.size 4 (ND.Is w0 w0.heap.size) ve (ndsT t 0)) (hf : SlR w0 w0.heap.size 4 (ND.Is w0 w0.heap.size) vf (ndsT v 0)) (hg : t.Good) (hgv : v.Good) (hd : t.deep ≤ 32) (hsz : t.size ≤ 256) (hszv : v.size ≤ 256) (hu : subT t i = some u) (hi : i < t.size) (hw : Below w0.heap.size w0 w) :
    Calls Tryz.prog 16 #[.agg #[ve], .int .i64 (i : Int), .agg #[vf]] w fun e w' => ∃ (a : Option Addr) (nn c : Nat) (es : List (ND × Value)), e = .returned (.agg #[.slice a nn c]) ∧ NL w' (w.heap.size + 3) (.slice a nn c) es ∧ es.map (·.1) = ndsT (repT t i v) 0 ∧ Below w.heap.size w w' := by
  obtain ⟨u', e1, e2, e3, e4, e5, _⟩ := sub_some t i hi
  rw [hu] at e1
  injection e1 with e1
  subst e1
  have hsu : Stands (ndsT t 0) u i := by
    unfold Stands ndsT
    have := congrArg (List.map EN.nd) (e5 0)
    rw [List.map_take, List.map_drop, Nat.zero_add] at this
    exact this
  have BH := Lib.hid (fun W (hW : Below w0.heap.size w0 W) => behind_all hs (by rw [nds_len]; exact hsz) 32 u i W hsu (by omega) (by rw [nds_len]; exact e2) hW)
  have HKA := Lib.hid (kids_fewT hg hsz)
  have HKB := Lib.hid (kids_fewT hgv hszv)
  have hrep := nds_rep t i u v 0 hu
  simp only [Nat.zero_add] at hrep
  rw [sh_part v i] at hrep
  obtain ⟨l, hl⟩ : ∃ l, ndsT t 0 = l := ⟨_, rfl⟩
  obtain ⟨m, hm⟩ : ∃ l, ndsT v 0 = l := ⟨_, rfl⟩
  have hnt : l.length = t.size := by rw [← hl, nds_len]
  have hnv : m.length = v.size := by rw [← hm, nds_len]
  rw [hl, hm] at hrep
  rw [hl] at hs HKA
  rw [hm] at hf HKB
  obtain ⟨E, hE⟩ : ∃ z, i + u.size = z := ⟨_, rfl⟩
  rw [hE] at BH hrep
  obtain ⟨M, hM⟩ : ∃ z, ((v.size : Nat) : Int) - ((u.size : Nat) : Int) = z := ⟨_, rfl⟩
  rw [hM] at hrep
  obtain ⟨a, c, rfl⟩ : ∃ a c, ve = .slice a l.length c := by obtain ⟨a, c, h, _⟩ := hs.form; exact ⟨a, c, h⟩
  obtain ⟨fa, fc, rfl⟩ : ∃ a c, vf = .slice a m.length c := by obtain ⟨a, c, h, _⟩ := hf.form; exact ⟨a, c, h⟩
  obtain ⟨n, hn⟩ : ∃ n, l.length = n := ⟨_, rfl⟩
  obtain ⟨nf, hnf⟩ : ∃ n, m.length = n := ⟨_, rfl⟩
  rw [hn] at hs hnt BH ⊢
  rw [hnf] at hf hnv ⊢
  have n256 : n ≤ 256 := by omega
  have nf256 : nf ≤ 256 := by omega
  have hiE : i ≤ E := by omega
  have hEn : E ≤ n := by omega
  have hMM : (nf : Int) - ((E : Int) - (i : Int)) = M := by omega
  have M1 : -1000 ≤ M := by omega
  have M2 : M ≤ 1000 := by omega
  have i0 : (0 : Int) ≤ (i : Int) := Int.natCast_nonneg _
  have i256 : (i : Int) ≤ 256 := by omega
  have E0 : (0 : Int) ≤ (E : Int) := Int.natCast_nonneg _
  have E256 : (E : Int) ≤ 256 := by omega
  have nf0 : (0 : Int) ≤ (nf : Int) := Int.natCast_nonneg _
  have nfi : (nf : Int) ≤ 256 := by omega
  have HREP := Lib.hid hrep
  have HN := Lib.hid hn
  have HNF := Lib.hid hnf
  have HS := Lib.hid hs
  have HF := Lib.hid hf
  have HW := Lib.hid hw
  obtain ⟨jE, hiE2, hz, hs2, hby⟩ := info_parts info_enode
  have IE := Lib.hid (And.intro hiE2 (And.intro hz (And.intro hs2 hby)))
  have B0 : Hid (Below w.heap.size w (((w.alloc (.cells #[.slice a n c] 24)).alloc (.cells #[.slice fa nf fc] 24)).alloc (.cells #[.slice none 0 0] 24))) := Lib.hid ((((Below.refl _ _).alloc (Nat.le_refl _) _).alloc (by simp) _).alloc (by simp <;> omega) _)
  have KA : Hid (Blk (((w.alloc (.cells #[.slice a n c] 24)).alloc (.cells #[.slice fa nf fc] 24)).alloc (.cells #[.slice none 0 0] 24)) w.heap.size 24 #[.slice a n c]) := Lib.hid (((Blk.new _ _ _).alloc _).alloc _)
  have KB : Hid (Blk (((w.alloc (.cells #[.slice a n c] 24)).alloc (.cells #[.slice fa nf fc] 24)).alloc (.cells #[.slice none 0 0] 24)) (w.heap.size + 1) 24 #[.slice fa nf fc]) := Lib.hid ((Blk.new_ (by simp) _ _).alloc _)
  have KR : Hid (Blk (((w.alloc (.cells #[.slice a n c] 24)).alloc (.cells #[.slice fa nf fc] 24)).alloc (.cells #[.slice none 0 0] 24)) (w.heap.size + 1 + 1) 24 #[.slice none 0 0]) := Lib.hid (Blk.new_ (by simp) _ _)
  clear hiE2 hz hs2 hby hs hf hg hgv hd hsz hszv hu hi hw e2 e3 e4 e5 hsu hrep hl hm hnt hnv hE hM hn hnf
  go_enter Tryz.func16, Tryz.ntmps16
  go_upto_region 1 with fail
  generalize hW1 : (((w.alloc (.cells #[.slice a n c] 24)).alloc (.cells #[.slice fa nf fc] 24)).alloc (.cells #[.slice none 0 0] 24)) = W1 at *
  clear hW1
  obtain ⟨qe, hqe⟩ : ∃ z, w.heap.size = z := ⟨_, rfl⟩
  have HQE := Lib.hid hqe
  rw [hqe] at KA KB KR ⊢
  clear hqe
  have a1 : W1.cell? ⟨qe, 0, none⟩ = some (.slice a n c) := KA.out.cell (i := 0) rfl
  have la1 : qe < W1.heap.size := KA.out.lt
  go_upto_region 5 with (first
    | (go_at_call 15; go_must (refine (BH.out W1 (HW.out.trans (B0.out.mono HW.out.size))).mono ?_); rintro e w2 ⟨rfl, b2⟩
       go_must (have KA2 := Lib.hid (KA.out.below b2 KA.out.lt))
       go_must (have KB2 := Lib.hid (KB.out.below b2 KB.out.lt))
       go_must (have KR2 := Lib.hid (KR.out.below b2 KR.out.lt))
       have B2 := Lib.hid (B0.out.trans (b2.mono B0.out.size))
       have f2 : w2.cell? ⟨qe + 1, 0, none⟩ = some (.slice fa nf fc) := KB2.out.cell (i := 0) rfl
       have lf2 : qe + 1 < w2.heap.size := KB2.out.lt
       clear b2)
    | fail)
  clear a1 la1 f2 lf2
  go_loopw [9, 10] (fun v9 v10 wr => ∃ (j : Nat) (oa : Option Addr) (oc : Nat) (es : List (ND × Value)), 0 ≤ j ∧ j ≤ i ∧ v10 = .int .i64 (j : Int) ∧ v9 = .slice oa (j) oc ∧ Hid (es.map (·.1) = (l.take j).map (shD (E : Int) M) ∧ NL wr (qe + 3) (.slice oa (j) oc) es ∧ Blk wr qe 24 #[.slice a n c] ∧ Blk wr (qe + 1) 24 #[.slice fa nf fc] ∧ Blk wr (qe + 2) 24 #[.slice none 0 0] ∧ Below w.heap.size w wr)) (fun _ v10 _ => i - (intOf v10).toNat)
  case atStart => exact ⟨0, none, 0, [], Nat.le_refl _, Nat.zero_le _, rfl, rfl, Lib.hid ⟨by simp, NL.nil _ _, KA2.out, KB2.out, KR2.out, B2.out⟩⟩
  case round =>
    obtain ⟨j, oa, oc, es, hjl, hj, rfl, rfl, hr⟩ := hrel
    obtain ⟨wo, hwo⟩ : ∃ W, W = wr := ⟨wr, rfl⟩
    subst hwo
    have HES := Lib.hid hr.out.1
    have HEL := Lib.hid hr.out.2.1
    have KA1 := Lib.hid hr.out.2.2.1
    have KB1 := Lib.hid hr.out.2.2.2.1
    have KR1 := Lib.hid hr.out.2.2.2.2.1
    have HB1 := Lib.hid hr.out.2.2.2.2.2
    have HSZ : Hid (qe + 3 ≤ wo.heap.size) := Lib.hid (by have := KR1.out.lt; omega)
    have j0 : (0 : Int) ≤ (j : Int) := Int.natCast_nonneg _
    have ea : wo.cell? ⟨qe, 0, none⟩ = some (.slice a n c) := KA1.out.cell (i := 0) rfl
    have ef : wo.cell? ⟨qe + 1, 0, none⟩ = some (.slice fa nf fc) := KB1.out.cell (i := 0) rfl
    have la : qe < wo.heap.size := KA1.out.lt
    have lf : qe + 1 < wo.heap.size := KB1.out.lt
    clear hr
    by_cases hlt : j < i
    · obtain ⟨d, hd⟩ := get_some HN.out (show j < n by omega)
      have hwr : Below w0.heap.size w0 wo := HW.out.trans (HB1.out.mono HW.out.size)
      obtain ⟨bN, off, x, rfl, hbN, _, ⟨kv, rfl, hks⟩, hx⟩ := HS.out.at_ hd
      obtain ⟨ka, kc, rfl, _⟩ := hks.form
      obtain ⟨hk3, hkx⟩ := HKA.out d (List.mem_iff_getElem?.2 ⟨j, hd⟩)
      have SH := Lib.hid (shifted_any wo w0 hks hwr hk3 hkx (E : Int) M ⟨M1, M2⟩)
      obtain ⟨kn, hkn⟩ : ∃ z, d.kids.length = z := ⟨_, rfl⟩
      rw [hkn] at hks hx hk3 SH
      have x0 := (hwr.cell (p := ⟨bN, off + j * 4, none⟩) hbN).trans (hx 0 _ rfl)
      have x1 := (hwr.cell (p := ⟨bN, off + j * 4 + 1, none⟩) hbN).trans (hx 1 _ rfl)
      have x2 := (hwr.cell (p := ⟨bN, off + j * 4 + 2, none⟩) hbN).trans (hx 2 _ rfl)
      have x3 := (hwr.cell (p := ⟨bN, off + j * 4 + 3, none⟩) hbN).trans (hx 3 _ rfl)
      have le : qe < wo.heap.size := KA1.out.lt
      have lbN : bN < wo.heap.size := Nat.lt_of_lt_of_le hbN hwr.size
      have HD := Lib.hid hd
      have HLT := Lib.hid hlt
      have HJL := Lib.hid hjl
      have jn : (j : Int) < (n : Int) := by omega
      have jtop : (j : Int) < (i : Int) := by omega
      have jtd : decide (j < i) = true := decide_eq_true hlt
      have HEN : Hid (es.length = j) := Lib.hid (by have := congrArg List.length HES.out; rw [List.length_map] at this; rw [this]; rw [List.length_map, List.length_take, HN.out]; omega)
      have HMS : Hid ((l.take (j + 1)).map (shD (E : Int) M) = (l.take j).map (shD (E : Int) M) ++ [shD (E : Int) M d]) := Lib.hid (by rw [List.take_add_one, hd]; simp)
      clear hd hks hkx hkn hx hwr hbN hlt hjl hk3
      go_wp2_with (first
        | (go_at_call 23; go_must (refine SH.out.mono ?_); rintro e w6 ⟨ra, rc, rfl, hkr, b6⟩
           have KR6 := Lib.hid hkr
           have B6 := Lib.hid b6
           clear hkr b6)
        | (at_builtin
           go_must (refine wpList_append_list rfl (.tmp 28) (.tmp 37) _ (by rfl) (qe + 3) (w6.heap.size + 1) 40 jE _ 4 56 Tryz.underlying22 IE.out.1 IE.out.2.1 IE.out.2.2.1 IE.out.2.2.2 rfl (by omega) (R := IsNDv) (l := es) (m := [(shD (E : Int) M d, .slice ra kn rc)]) (.slice oa (j) oc) (by rfl) (by exact ((HEL.out.below B6.out).alloc (.cells #[.int .i64 d.kind, .string (txt d.text), .int .i64 d.num, .slice ra kn rc] 40)).main) (some ⟨w6.heap.size, 0, none⟩) 1 1 (by rfl) (SlR.new1 (w := w6) (e := 40) (g := w6.heap.size) rfl (x := [.int .i64 d.kind, .string (txt d.text), .int .i64 d.num, .slice ra kn rc]) rfl (R := IsNDv) (y := (shD (E : Int) M d, .slice ra kn rc)) ⟨rfl, _, _, _, rfl⟩) (j + 1) (by rw [HEN.out]) IsNDv.one (by have := HEN.out; unfold maxLen; simp at this ⊢; omega) (by have := HEN.out; simp at this ⊢; omega) (by have := HSZ.out; have := B6.out.size; simp; omega) ?_)
           intro oa2 oc2 w7 hown hgr
           have O7 := Lib.hid (And.intro hown hgr)
           clear hown hgr)
        | fail)
      go_roundw
      case rel =>
        have KV : Own1 (w6.alloc (.cells #[.int .i64 d.kind, .string (txt d.text), .int .i64 d.num, .slice ra kn rc] 40)) (qe + 3) 3 1 IsI (.slice ra kn rc) (shD (E : Int) M d).kids := (KR6.out.alloc _).mono (by have := HSZ.out; omega)
        have NB := HEL.out.below B6.out
        have hno : ∀ b, (Value.slice oa (j) oc).ownBlock = some b → qe + 3 ≤ b := fun b hb => (NB.main.block b hb).1
        refine ⟨j + 1, oa2, oc2, es ++ [(shD (E : Int) M d, .slice ra kn rc)], by have := HJL.out; omega, HLT.out, by go_num, by rw [show j + 1 = j + 1 by have := HJL.out; omega], Lib.hid ⟨?_, ?_, ?_, ?_, ?_, ?_⟩⟩
        · rw [List.map_append, HES.out, HMS.out]; rfl
        · rw [show j + 1 = j + 1 by have := HJL.out; omega]; exact (NB.alloc _).push KV O7.out.1 O7.out.2
        · exact ((KA1.out.below B6.out KA1.out.lt).alloc _).grown O7.out.2 (fun e => by have := hno qe e.symm; omega)
        · exact ((KB1.out.below B6.out KB1.out.lt).alloc _).grown O7.out.2 (fun e => by have := hno (qe + 1) e.symm; omega)
        · exact ((KR1.out.below B6.out KR1.out.lt).alloc _).grown O7.out.2 (fun e => by have := hno (qe + 2) e.symm; omega)
        · exact ((HB1.out.trans (B6.out.mono HB1.out.size)).alloc (by have := HB1.out.size; have := B6.out.size; omega) _).grown O7.out.2 (by have := HB1.out.size; have := B6.out.size; simp; omega) (fun b hb => by have := hno b hb; have := HQE.out; omega)
      case measure => simp [intOf]; have := HLT.out; omega
    · have hjt : j = i := by omega
      have d1 : decide ((j : Int) < (i : Int)) = false := by rw [hjt]; simp
      have d2 : decide (j < i) = false := by rw [hjt]; simp
      clear hlt hj hjl
      rw [hjt] at HES HEL
      rw [hjt] at d1 d2 ⊢
      clear hjt j0
      go_upto_region 9 with fail
      go_loopw [9, 11] (fun v9 v11 wr => ∃ (j : Nat) (oa : Option Addr) (oc : Nat) (es : List (ND × Value)), 0 ≤ j ∧ j ≤ nf ∧ v11 = .int .i64 (j : Int) ∧ v9 = .slice oa (i + j) oc ∧ Hid (es.map (·.1) = (l.take i).map (shD (E : Int) M) ++ (m.take j).map (shD 0 (i : Int)) ∧ NL wr (qe + 3) (.slice oa (i + j) oc) es ∧ Blk wr qe 24 #[.slice a n c] ∧ Blk wr (qe + 1) 24 #[.slice fa nf fc] ∧ Blk wr (qe + 2) 24 #[.slice none 0 0] ∧ Below w.heap.size w wr)) (fun _ v11 _ => nf - (intOf v11).toNat)
      case atStart => exact ⟨0, oa, oc, es, Nat.le_refl _, Nat.zero_le _, rfl, rfl, Lib.hid ⟨by simpa using HES.out, HEL.out, KA1.out, KB1.out, KR1.out, HB1.out⟩⟩
      case round =>
        clear HES HEL KA1 KB1 KR1 HB1 HSZ ea ef la lf d1 d2
        obtain ⟨j, oa, oc, es, hjl, hj, rfl, rfl, hr⟩ := hrel
        obtain ⟨wo, hwo⟩ : ∃ W, W = wr := ⟨wr, rfl⟩
        subst hwo
        have HES := Lib.hid hr.out.1
        have HEL := Lib.hid hr.out.2.1
        have KA1 := Lib.hid hr.out.2.2.1
        have KB1 := Lib.hid hr.out.2.2.2.1
        have KR1 := Lib.hid hr.out.2.2.2.2.1
        have HB1 := Lib.hid hr.out.2.2.2.2.2
        have HSZ : Hid (qe + 3 ≤ wo.heap.size) := Lib.hid (by have := KR1.out.lt; omega)
        have j0 : (0 : Int) ≤ (j : Int) := Int.natCast_nonneg _
        have ea : wo.cell? ⟨qe, 0, none⟩ = some (.slice a n c) := KA1.out.cell (i := 0) rfl
        have ef : wo.cell? ⟨qe + 1, 0, none⟩ = some (.slice fa nf fc) := KB1.out.cell (i := 0) rfl
        have la : qe < wo.heap.size := KA1.out.lt
        have lf : qe + 1 < wo.heap.size := KB1.out.lt
        clear hr
        by_cases hlt : j < nf
        · obtain ⟨d, hd⟩ := get_some HNF.out (show j < nf by omega)
          have hwr : Below w0.heap.size w0 wo := HW.out.trans (HB1.out.mono HW.out.size)
          obtain ⟨bN, off, x, rfl, hbN, _, ⟨kv, rfl, hks⟩, hx⟩ := HF.out.at_ hd
          obtain ⟨ka, kc, rfl, _⟩ := hks.form
          obtain ⟨hk3, hkx⟩ := HKB.out d (List.mem_iff_getElem?.2 ⟨j, hd⟩)
          have SH := Lib.hid (shifted_any wo w0 hks hwr hk3 hkx 0 (i : Int) ⟨by omega, by omega⟩)
          obtain ⟨kn, hkn⟩ : ∃ z, d.kids.length = z := ⟨_, rfl⟩
          rw [hkn] at hks hx hk3 SH
          have x0 := (hwr.cell (p := ⟨bN, off + j * 4, none⟩) hbN).trans (hx 0 _ rfl)
          have x1 := (hwr.cell (p := ⟨bN, off + j * 4 + 1, none⟩) hbN).trans (hx 1 _ rfl)
          have x2 := (hwr.cell (p := ⟨bN, off + j * 4 + 2, none⟩) hbN).trans (hx 2 _ rfl)
          have x3 := (hwr.cell (p := ⟨bN, off + j * 4 + 3, none⟩) hbN).trans (hx 3 _ rfl)
          have le : qe + 1 < wo.heap.size := KB1.out.lt
          have lbN : bN < wo.heap.size := Nat.lt_of_lt_of_le hbN hwr.size
          have HD := Lib.hid hd
          have HLT := Lib.hid hlt
          have HJL := Lib.hid hjl
          have jn : (j : Int) < (nf : Int) := by omega
          have jtop : (j : Int) < (nf : Int) := by omega
          have jtd : decide (j < nf) = true := decide_eq_true hlt
          have HEN : Hid (es.length = i + j) := Lib.hid (by have := congrArg List.length HES.out; rw [List.length_map] at this; rw [this]; rw [List.length_append, List.length_map, List.length_map, List.length_take, List.length_take, HN.out, HNF.out]; omega)
          have HMS : Hid ((l.take i).map (shD (E : Int) M) ++ (m.take (j + 1)).map (shD 0 (i : Int)) = (l.take i).map (shD (E : Int) M) ++ (m.take j).map (shD 0 (i : Int)) ++ [shD 0 (i : Int) d]) := Lib.hid (by rw [List.take_add_one, hd]; simp)
          clear hd hks hkx hkn hx hwr hbN hlt hjl hk3
          go_wp2_with (first
            | (go_at_call 23; go_must (refine SH.out.mono ?_); rintro e w6 ⟨ra, rc, rfl, hkr, b6⟩
               have KR6 := Lib.hid hkr
               have B6 := Lib.hid b6
               clear hkr b6)
            | (at_builtin
               go_must (refine wpList_append_list rfl (.tmp 46) (.tmp 54) _ (by rfl) (qe + 3) (w6.heap.size + 1) 40 jE _ 4 56 Tryz.underlying22 IE.out.1 IE.out.2.1 IE.out.2.2.1 IE.out.2.2.2 rfl (by omega) (R := IsNDv) (l := es) (m := [(shD 0 (i : Int) d, .slice ra kn rc)]) (.slice oa (i + j) oc) (by rfl) (by exact ((HEL.out.below B6.out).alloc (.cells #[.int .i64 d.kind, .string (txt d.text), .int .i64 d.num, .slice ra kn rc] 40)).main) (some ⟨w6.heap.size, 0, none⟩) 1 1 (by rfl) (SlR.new1 (w := w6) (e := 40) (g := w6.heap.size) rfl (x := [.int .i64 d.kind, .string (txt d.text), .int .i64 d.num, .slice ra kn rc]) rfl (R := IsNDv) (y := (shD 0 (i : Int) d, .slice ra kn rc)) ⟨rfl, _, _, _, rfl⟩) (i + j + 1) (by rw [HEN.out]) IsNDv.one (by have := HEN.out; unfold maxLen; simp at this ⊢; omega) (by have := HEN.out; simp at this ⊢; omega) (by have := HSZ.out; have := B6.out.size; simp; omega) ?_)
               intro oa2 oc2 w7 hown hgr
               have O7 := Lib.hid (And.intro hown hgr)
               clear hown hgr)
            | fail)
          go_roundw
          case rel =>
            have KV : Own1 (w6.alloc (.cells #[.int .i64 d.kind, .string (txt d.text), .int .i64 d.num, .slice ra kn rc] 40)) (qe + 3) 3 1 IsI (.slice ra kn rc) (shD 0 (i : Int) d).kids := (KR6.out.alloc _).mono (by have := HSZ.out; omega)
            have NB := HEL.out.below B6.out
            have hno : ∀ b, (Value.slice oa (i + j) oc).ownBlock = some b → qe + 3 ≤ b := fun b hb => (NB.main.block b hb).1
            refine ⟨j + 1, oa2, oc2, es ++ [(shD 0 (i : Int) d, .slice ra kn rc)], by have := HJL.out; omega, HLT.out, by go_num, by rw [show i + (j + 1) = i + j + 1 by have := HJL.out; omega], Lib.hid ⟨?_, ?_, ?_, ?_, ?_, ?_⟩⟩
            · rw [List.map_append, HES.out, HMS.out]; rfl
            · rw [show i + (j + 1) = i + j + 1 by have := HJL.out; omega]; exact (NB.alloc _).push KV O7.out.1 O7.out.2
            · exact ((KA1.out.below B6.out KA1.out.lt).alloc _).grown O7.out.2 (fun e => by have := hno qe e.symm; omega)
            · exact ((KB1.out.below B6.out KB1.out.lt).alloc _).grown O7.out.2 (fun e => by have := hno (qe + 1) e.symm; omega)
            · exact ((KR1.out.below B6.out KR1.out.lt).alloc _).grown O7.out.2 (fun e => by have := hno (qe + 2) e.symm; omega)
            · exact ((HB1.out.trans (B6.out.mono HB1.out.size)).alloc (by have := HB1.out.size; have := B6.out.size; omega) _).grown O7.out.2 (by have := HB1.out.size; have := B6.out.size; simp; omega) (fun b hb => by have := hno b hb; have := HQE.out; omega)
          case measure => simp [intOf]; have := HLT.out; omega
        · have hjt : j = nf := by omega
          have d1 : decide ((j : Int) < (nf : Int)) = false := by rw [hjt]; simp
          have d2 : decide (j < nf) = false := by rw [hjt]; simp
          clear hlt hj hjl
          rw [hjt] at HES HEL
          rw [hjt] at d1 d2 ⊢
          clear hjt j0
          go_upto_region 13 with fail
          go_loopw [9, 12] (fun v9 v12 wr => ∃ (j : Nat) (oa : Option Addr) (oc : Nat) (es : List (ND × Value)), E ≤ j ∧ j ≤ n ∧ v12 = .int .i64 (j : Int) ∧ v9 = .slice oa (i + nf + (j - E)) oc ∧ Hid (es.map (·.1) = (l.take i).map (shD (E : Int) M) ++ (m.take nf).map (shD 0 (i : Int)) ++ ((l.drop E).take (j - E)).map (shD (E : Int) M) ∧ NL wr (qe + 3) (.slice oa (i + nf + (j - E)) oc) es ∧ Blk wr qe 24 #[.slice a n c] ∧ Blk wr (qe + 1) 24 #[.slice fa nf fc] ∧ Blk wr (qe + 2) 24 #[.slice none 0 0] ∧ Below w.heap.size w wr)) (fun _ v12 _ => n - (intOf v12).toNat)
          case atStart => exact ⟨E, oa, oc, es, Nat.le_refl _, hEn, rfl, by simp, Lib.hid ⟨by simpa using HES.out, by simpa using HEL.out, KA1.out, KB1.out, KR1.out, HB1.out⟩⟩
          case round =>
            clear HES HEL KA1 KB1 KR1 HB1 HSZ ea ef la lf d1 d2
            obtain ⟨j, oa, oc, es, hjl, hj, rfl, rfl, hr⟩ := hrel
            obtain ⟨wo, hwo⟩ : ∃ W, W = wr := ⟨wr, rfl⟩
            subst hwo
            have HES := Lib.hid hr.out.1
            have HEL := Lib.hid hr.out.2.1
            have KA1 := Lib.hid hr.out.2.2.1
            have KB1 := Lib.hid hr.out.2.2.2.1
            have KR1 := Lib.hid hr.out.2.2.2.2.1
            have HB1 := Lib.hid hr.out.2.2.2.2.2
            have HSZ : Hid (qe + 3 ≤ wo.heap.size) := Lib.hid (by have := KR1.out.lt; omega)
            have j0 : (0 : Int) ≤ (j : Int) := Int.natCast_nonneg _
            have ea : wo.cell? ⟨qe, 0, none⟩ = some (.slice a n c) := KA1.out.cell (i := 0) rfl
            have ef : wo.cell? ⟨qe + 1, 0, none⟩ = some (.slice fa nf fc) := KB1.out.cell (i := 0) rfl
            have la : qe < wo.heap.size := KA1.out.lt
            have lf : qe + 1 < wo.heap.size := KB1.out.lt
            clear hr
            by_cases hlt : j < n
            · obtain ⟨d, hd⟩ := get_some HN.out (show j < n by omega)
              have hwr : Below w0.heap.size w0 wo := HW.out.trans (HB1.out.mono HW.out.size)
              obtain ⟨bN, off, x, rfl, hbN, _, ⟨kv, rfl, hks⟩, hx⟩ := HS.out.at_ hd
              obtain ⟨ka, kc, rfl, _⟩ := hks.form
              obtain ⟨hk3, hkx⟩ := HKA.out d (List.mem_iff_getElem?.2 ⟨j, hd⟩)
              have SH := Lib.hid (shifted_any wo w0 hks hwr hk3 hkx (E : Int) M ⟨M1, M2⟩)
              obtain ⟨kn, hkn⟩ : ∃ z, d.kids.length = z := ⟨_, rfl⟩
              rw [hkn] at hks hx hk3 SH
              have x0 := (hwr.cell (p := ⟨bN, off + j * 4, none⟩) hbN).trans (hx 0 _ rfl)
              have x1 := (hwr.cell (p := ⟨bN, off + j * 4 + 1, none⟩) hbN).trans (hx 1 _ rfl)
              have x2 := (hwr.cell (p := ⟨bN, off + j * 4 + 2, none⟩) hbN).trans (hx 2 _ rfl)
              have x3 := (hwr.cell (p := ⟨bN, off + j * 4 + 3, none⟩) hbN).trans (hx 3 _ rfl)
              have le : qe < wo.heap.size := KA1.out.lt
              have lbN : bN < wo.heap.size := Nat.lt_of_lt_of_le hbN hwr.size
              have HD := Lib.hid hd
              have HLT := Lib.hid hlt
              have HJL := Lib.hid hjl
              have jn : (j : Int) < (n : Int) := by omega
              have jtop : (j : Int) < (n : Int) := by omega
              have jtd : decide (j < n) = true := decide_eq_true hlt
              have HEN : Hid (es.length = i + nf + (j - E)) := Lib.hid (by have := congrArg List.length HES.out; rw [List.length_map] at this; rw [this]; rw [List.length_append, List.length_append, List.length_map, List.length_map, List.length_map, List.length_take, List.length_take, List.length_take, List.length_drop, HN.out, HNF.out]; omega)
              have HMS : Hid ((l.take i).map (shD (E : Int) M) ++ (m.take nf).map (shD 0 (i : Int)) ++ ((l.drop E).take ((j + 1) - E)).map (shD (E : Int) M) = (l.take i).map (shD (E : Int) M) ++ (m.take nf).map (shD 0 (i : Int)) ++ ((l.drop E).take (j - E)).map (shD (E : Int) M) ++ [shD (E : Int) M d]) := Lib.hid (by rw [show j + 1 - E = (j - E) + 1 by omega, List.take_add_one, List.getElem?_drop, show E + (j - E) = j by omega, hd]; simp)
              clear hd hks hkx hkn hx hwr hbN hlt hjl hk3
              go_wp2_with (first
                | (go_at_call 23; go_must (refine SH.out.mono ?_); rintro e w6 ⟨ra, rc, rfl, hkr, b6⟩
                   have KR6 := Lib.hid hkr
                   have B6 := Lib.hid b6
                   clear hkr b6)
                | (at_builtin
                   go_must (refine wpList_append_list rfl (.tmp 64) (.tmp 73) _ (by rfl) (qe + 3) (w6.heap.size + 1) 40 jE _ 4 56 Tryz.underlying22 IE.out.1 IE.out.2.1 IE.out.2.2.1 IE.out.2.2.2 rfl (by omega) (R := IsNDv) (l := es) (m := [(shD (E : Int) M d, .slice ra kn rc)]) (.slice oa (i + nf + (j - E)) oc) (by rfl) (by exact ((HEL.out.below B6.out).alloc (.cells #[.int .i64 d.kind, .string (txt d.text), .int .i64 d.num, .slice ra kn rc] 40)).main) (some ⟨w6.heap.size, 0, none⟩) 1 1 (by rfl) (SlR.new1 (w := w6) (e := 40) (g := w6.heap.size) rfl (x := [.int .i64 d.kind, .string (txt d.text), .int .i64 d.num, .slice ra kn rc]) rfl (R := IsNDv) (y := (shD (E : Int) M d, .slice ra kn rc)) ⟨rfl, _, _, _, rfl⟩) (i + nf + (j - E) + 1) (by rw [HEN.out]) IsNDv.one (by have := HEN.out; unfold maxLen; simp at this ⊢; omega) (by have := HEN.out; simp at this ⊢; omega) (by have := HSZ.out; have := B6.out.size; simp; omega) ?_)
                   intro oa2 oc2 w7 hown hgr
                   have O7 := Lib.hid (And.intro hown hgr)
                   clear hown hgr)
                | fail)
              go_roundw
              case rel =>
                have KV : Own1 (w6.alloc (.cells #[.int .i64 d.kind, .string (txt d.text), .int .i64 d.num, .slice ra kn rc] 40)) (qe + 3) 3 1 IsI (.slice ra kn rc) (shD (E : Int) M d).kids := (KR6.out.alloc _).mono (by have := HSZ.out; omega)
                have NB := HEL.out.below B6.out
                have hno : ∀ b, (Value.slice oa (i + nf + (j - E)) oc).ownBlock = some b → qe + 3 ≤ b := fun b hb => (NB.main.block b hb).1
                refine ⟨j + 1, oa2, oc2, es ++ [(shD (E : Int) M d, .slice ra kn rc)], by have := HJL.out; omega, HLT.out, by go_num, by rw [show i + nf + (j + 1 - E) = i + nf + (j - E) + 1 by have := HJL.out; omega], Lib.hid ⟨?_, ?_, ?_, ?_, ?_, ?_⟩⟩
                · rw [List.map_append, HES.out, HMS.out]; rfl
                · rw [show i + nf + (j + 1 - E) = i + nf + (j - E) + 1 by have := HJL.out; omega]; exact (NB.alloc _).push KV O7.out.1 O7.out.2
                · exact ((KA1.out.below B6.out KA1.out.lt).alloc _).grown O7.out.2 (fun e => by have := hno qe e.symm; omega)
                · exact ((KB1.out.below B6.out KB1.out.lt).alloc _).grown O7.out.2 (fun e => by have := hno (qe + 1) e.symm; omega)
                · exact ((KR1.out.below B6.out KR1.out.lt).alloc _).grown O7.out.2 (fun e => by have := hno (qe + 2) e.symm; omega)
                · exact ((HB1.out.trans (B6.out.mono HB1.out.size)).alloc (by have := HB1.out.size; have := B6.out.size; omega) _).grown O7.out.2 (by have := HB1.out.size; have := B6.out.size; simp; omega) (fun b hb => by have := hno b hb; have := HQE.out; omega)
              case measure => simp [intOf]; have := HLT.out; omega
            · have hjt : j = n := by omega
              have d1 : decide ((j : Int) < (n : Int)) = false := by rw [hjt]; simp
              have d2 : decide (j < n) = false := by rw [hjt]; simp
              clear hlt hj hjl
              have hall : (l.drop E).take (n - E) = l.drop E := List.take_of_length_le (by rw [List.length_drop, HN.out]; exact Nat.le_refl _)
              have hmall : m.take nf = m := List.take_of_length_le (by rw [HNF.out]; exact Nat.le_refl _)
              rw [hjt, hall, hmall] at HES
              rw [hjt] at HEL d1 d2 ⊢
              have r0 : wo.cell? ⟨qe + 2, 0, none⟩ = some (.slice none 0 0) := KR1.out.cell (i := 0) rfl
              have zr := KR1.out.frozen 0
              have lr := KR1.out.lt
              clear hall hmall hjt j0
              go_wp2_with fail
              generalize hW9 : World.setCell wo _ _ = W9
              have r9 : W9.cell? ⟨qe + 2, 0, none⟩ = some (.slice oa (i + nf + (n - E)) oc) := by rw [← hW9]; exact (KR1.out.set_ 0 _).cell rfl
              have b9 : Below w.heap.size w W9 := by rw [← hW9]; exact HB1.out.setCell (p := ⟨qe + 2, 0, none⟩) (by have := HQE.out; show w.heap.size ≤ qe + 2; omega) _
              have e9 : NL W9 (qe + 3) (.slice oa (i + nf + (n - E)) oc) es := by rw [← hW9]; exact HEL.out.setFar (p := ⟨qe + 2, 0, none⟩) (by show qe + 2 < qe + 3; omega) _
              refine bodyPost_ret (v := .agg #[.slice oa (i + nf + (n - E)) oc]) (by simp [results, Tryz.results16, go_sem, r9]) rfl ?_
              exact ⟨oa, _, oc, es, rfl, by rw [HQE.out]; exact e9, by rw [HES.out, ← HREP.out], b9⟩
end Go.Proofs.YtidkbodmiegbkaaGreatDoor
