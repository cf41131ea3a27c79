/- Chapter 09: the reference's Each, Of, Ints. -/
import Derived.Test.YtidkbodmiegbkaaDoorKeC
import Derived.Test.YtidkbodmiegbkaaDoorLM2
namespace Go.Proofs.YtidkbodmiegbkaaDoor
set_option linter.unusedSimpArgs false
set_option linter.unusedVariables false
open Go.RowKit

set_option maxRecDepth 100000 in
set_option maxHeartbeats 4000000 in
theorem reach_bad {l : List ND} {v : Value} (w w0 : World) (hs : SlR w0 w0.heap.size 4 (ND.Is w0 w0.heap.size) v l) (hok : ∀ d ∈ l, NdOk d) (hw : Below w0.heap.size w0 w) (hr : rightE l ≠ 0) :
    Calls Tryd.prog 9 #[.agg #[v]] w fun e w' => e = .returned (.tuple #[.slice none 0 0, .int .i64 0, .int .i64 (rightE l : Int)]) ∧ Below w.heap.size w w' := by
  obtain ⟨a, c, rfl⟩ : ∃ a c, v = .slice a l.length c := by obtain ⟨a, c, h, _⟩ := hs.form; exact ⟨a, c, h⟩
  obtain ⟨n, hn⟩ : ∃ n, l.length = n := ⟨_, rfl⟩
  have HR := Lib.hid (rright (w.alloc (.cells #[.slice a n c] 24)) w0 hs hok (hw.alloc hw.size _))
  rw [hn] at HR ⊢
  obtain ⟨r, hrr⟩ : ∃ r, rightE l = r := ⟨_, rfl⟩
  rw [hrr] at HR hr ⊢
  have e0 : ((r : Int) != 0) = true := by rw [bne_iff_ne]; omega
  clear hs hok hw hn hrr hr
  go_enter Tryd.func9, Tryd.ntmps9
  go_wp2_with (first
    | (go_at_call 16; go_must (refine HR.out.mono ?_); rintro e w3 ⟨rfl, hb⟩; have HB := Lib.hid hb; clear hb)
    | fail)
  go_ret3
  exact ⟨rfl, ((Below.refl _ _).alloc (Nat.le_refl _) _).trans (HB.out.mono (by simp <;> omega))⟩
set_option maxRecDepth 100000 in
set_option maxHeartbeats 8000000 in
theorem reach_ok {t : Tr} {v : Value} (w w0 : World) (hs : SlR w0 w0.heap.size 4 (ND.Is w0 w0.heap.size) v (ndsT t 0)) (hok : ∀ d ∈ ndsT t 0, NdOk d) (hw : Below w0.heap.size w0 w) (hg : t.Good) (hd : t.deep ≤ 32) (hsz : t.size ≤ 256) :
    Calls Tryd.prog 9 #[.agg #[v]] w fun e w' => ∃ sv, e = .returned (.tuple #[sv, .int .i64 (atN t), .int .i64 (errN (ndsT t 0) t)]) ∧ Own1 w' w.heap.size 3 1 IsI sv (kindsT t) ∧ Below w.heap.size w w' := by
  obtain ⟨l, hl⟩ : ∃ l, ndsT t 0 = l := ⟨_, rfl⟩
  have hst := stands_nds t
  have hr : rightE l = 0 := by rw [← hl]; exact (right_of hg hsz hd).1
  have hlen : l.length = t.size := by rw [← hl, nds_len]
  rw [hl] at hs hok hst ⊢
  obtain ⟨a, c, rfl⟩ : ∃ a c, v = .slice a l.length c := by obtain ⟨a, c, h, _⟩ := hs.form; exact ⟨a, c, h⟩
  have HR := Lib.hid (rright (w.alloc (.cells #[.slice a l.length c] 24)) w0 hs hok (hw.alloc hw.size _))
  rw [hr] at HR
  have hun : Und l [] 0 t := Und.root hst hlen
  obtain ⟨n, hn⟩ : ∃ n, l.length = n := ⟨_, rfl⟩
  have hl256 : l.length ≤ 256 := by omega
  rw [hn] at HR hs hlen ⊢
  have hn256 : n ≤ 256 := by omega
  have HS := Lib.hid hs
  have HW := Lib.hid hw
  have HT := Lib.hid (And.intro hok (And.intro hg (And.intro hd (And.intro hun (And.intro hlen hn)))))
  have WC := Lib.hid (fun w3 (h3 : Below w0.heap.size w0 w3) => rwrong_all 32 t 0 [] w3 (⟨hs, hok, hl256, hg, hd, hun, h3⟩ : RKPre l (.slice a n c) w0 32 t 0 [] w3))
  have KC := Lib.hid (fun u p vs (hg' : u.Good) (hd' : u.deep ≤ 32) (hu : Und l vs p u) w3 (h3 : Below w0.heap.size w0 w3) => rkindK_all 32 u p vs w3 (⟨hs, hok, hl256, hg', hd', hu, h3⟩ : RKPre l (.slice a n c) w0 32 u p vs w3))
  obtain ⟨wv, hwr⟩ : ∃ z, wR 32 t [] 0 = z := ⟨_, rfl⟩
  have hin := wR_in 32 t [] 0
  rw [hwr] at hin WC
  have HWR := Lib.hid hwr
  have hin2 : wv = -1 ∨ (0 ≤ wv ∧ wv < (n : Int)) := by rw [hlen]; simpa using hin
  have hkl := ksR_len 32 t [] hd
  have HKL := Lib.hid hkl
  have HHL := Lib.hid hl256
  obtain ⟨jI, hi, hz, hsz2, hby⟩ := info_parts info_I9
  have I := Lib.hid (And.intro hi (And.intro hz (And.intro hsz2 hby)))
  have n0 : (0 : Int) ≤ (n : Int) := Int.natCast_nonneg _
  clear hs hok hw hr hg hd hsz hst hl hn hun hlen hwr hin hkl hi hz hsz2 hby hl256
  go_enter Tryd.func9, Tryd.ntmps9
  have tokR : True := trivial
  have tokW : True := trivial
  go_upto_region 5 with (first
    | (have _t := tokR; go_at_call 16; go_must (refine HR.out.mono ?_); clear tokR _t; rintro e w3 ⟨rfl, hb⟩
       go_must (have B3 : Hid (Below w.heap.size w w3) := Lib.hid (((Below.refl _ _).alloc (Nat.le_refl _) _).trans (hb.mono (by simp <;> omega))))
       go_must (have E3 := Lib.hid ((Blk.new w 24 #[.slice a n c]).below hb (by simp <;> omega)))
       have c3 : w3.cell? ⟨w.heap.size, 0, none⟩ = some (.slice a n c) := E3.out.cell rfl
       clear hb)
    | (have _t := tokW; go_at_call 17; go_must (refine (WC.out w3 (HW.out.trans (B3.out.mono HW.out.size))).mono ?_); clear tokW _t; rintro e w4 ⟨rfl, hb⟩
       go_must (have B4 := Lib.hid (B3.out.trans (hb.mono B3.out.size)))
       go_must (have E4 := Lib.hid (E3.out.below hb E3.out.lt))
       have c4 : w4.cell? ⟨w.heap.size, 0, none⟩ = some (.slice a n c) := E4.out.cell rfl
       clear hb)
    | fail)
  have l4 : w.heap.size < w4.heap.size := E4.out.lt
  rcases hin2 with rfl | ⟨h0, h1⟩
  · have hne : wR 32 t [] 0 < 0 := by rw [HWR.out]; omega
    have hat : atN t = 0 := by unfold atN; rw [if_pos hne]
    have her : errN l t = 0 := by unfold errN; rw [if_pos hne]
    have hks : kindsT t = ksR 32 t [] := by unfold kindsT; rw [if_pos hne]
    have HE := Lib.hid (And.intro hat (And.intro her hks))
    clear hne hat her hks c3
    go_wp2_with fail
    obtain ⟨eb, heb⟩ : ∃ z, w.heap.size = z := ⟨_, rfl⟩
    have HEB := Lib.hid heb
    rw [heb] at E4 c4 l4 ⊢
    clear heb
    go_loopw [7, 8] (fun v7 v8 wr => ∃ i : Nat, i ≤ n ∧ v8 = .int .i64 (i : Int) ∧ Hid (Own1 wr (eb + 1) 3 1 IsI v7 ((ksR 32 t []).take i) ∧ Blk wr eb 24 #[.slice a n c] ∧ Below w.heap.size w wr)) (fun _ v8 _ => n - (intOf v8).toNat)
    case atStart => exact ⟨0, Nat.zero_le _, rfl, Lib.hid ⟨⟨[], ⟨rfl, .inl ⟨rfl, rfl⟩⟩, FlatR.nil_⟩, E4.out, B4.out⟩⟩
    case round =>
      obtain ⟨i, hi, rfl, hr⟩ := hrel
      have RO0 := hr.out.1
      have E5 := Lib.hid hr.out.2.1
      have B5 := Lib.hid hr.out.2.2
      clear hr
      have c5 : wr.cell? ⟨eb, 0, none⟩ = some (.slice a n c) := E5.out.cell rfl
      have l5 : eb < wr.heap.size := E5.out.lt
      obtain ⟨oa, oc, rfl⟩ := RO0.form
      have htl : ((ksR 32 t []).take i).length = i := by rw [List.length_take, HKL.out, ← HT.out.2.2.2.2.1]; omega
      rw [htl] at RO0 ⊢
      have RO := Lib.hid RO0
      have HTL := Lib.hid htl
      clear RO0 htl
      by_cases hlt : i < n
      · obtain ⟨u, vs', hg', hu, hd', hx⟩ := und_good (l := l) HT.out.2.1 HT.out.2.2.1 HT.out.2.2.2.1 i (by rw [← HT.out.2.2.2.2.1]; exact hlt)
        rw [Nat.zero_add] at hu
        obtain ⟨x, hxx⟩ : ∃ z, kR 32 u vs' = z := ⟨_, rfl⟩
        have KX := Lib.hid (KC.out u i vs' hg' hd' hu wr (HW.out.trans (B5.out.mono HW.out.size)))
        rw [hxx] at KX hx
        have hxr := kR_rng 32 u vs'
        rw [hxx] at hxr
        have htk : (ksR 32 t []).take (i + 1) = (ksR 32 t []).take i ++ [x] := by rw [List.take_add_one, hx]; rfl
        have HTK := Lib.hid htk
        have HXR := Lib.hid hxr
        have i0 : (0 : Int) ≤ (i : Int) := Int.natCast_nonneg _
        have i1 : (i : Int) < (n : Int) := by omega
        clear hg' hu hd' hx hxx hxr htk
        go_wp2_with (first
          | (go_at_call 18; go_must (refine KX.out.mono ?_); rintro e w6 ⟨rfl, hb⟩
             go_must (have RO6 := Lib.hid (RO.out.below hb (Nat.le_refl _)))
             go_must (have E6 := Lib.hid (E5.out.below hb l5))
             go_must (have B6 := Lib.hid (B5.out.trans (hb.mono B5.out.size)))
             go_must (have l6 : eb < w6.heap.size := E6.out.lt)
             clear hb)
          | (at_builtin
             go_must (refine wpList_append_list rfl (.tmp 38) (.tmp 42) _ (by rfl) (eb + 1) (w6.heap.size + 1) 3 jI _ 1 8 Tryd.underlying29 I.out.1 I.out.2.1 I.out.2.2.1 I.out.2.2.2 rfl (by omega) (R := IsI) (l := (ksR 32 t []).take i) (m := [x]) (.slice oa i oc) (by rfl) (by exact RO6.out.alloc (.cells #[.int .i64 x] 3)) (some ⟨w6.heap.size, 0, none⟩) 1 1 (by rfl) (SlR.new1 (w := w6) (e := 3) (g := w6.heap.size) rfl (x := [.int .i64 x]) rfl (R := IsI) (y := x) rfl) (i + 1) (by rw [HTL.out]) IsI.one (by have := HTL.out; unfold maxLen; simp <;> omega) (by have := HTL.out; simp <;> omega) (by simp; omega) ?_)
             intro a7 c7 w7 hown hgr
             go_must (have E7 := Lib.hid ((E6.out.alloc (.cells #[.int .i64 x] 3)).grown hgr (fun e => by have := (RO6.out.block eb e.symm).1; omega)))
             go_must (have B7 := Lib.hid ((B6.out.alloc B6.out.size (.cells #[.int .i64 x] 3)).grown hgr (by have := B6.out.size; simp; omega) (fun b hb => by have := (RO6.out.block b hb).1; have := HEB.out; omega)))
             have RO7 := Lib.hid hown
             clear hown hgr)
          | fail)
        go_roundw
        case rel => exact ⟨i + 1, by omega, by go_num, Lib.hid ⟨by rw [HTK.out]; exact RO7.out, E7.out, B7.out⟩⟩
        case measure => simp [intOf]; omega
      · have hin : i = n := by omega
        subst hin
        have hfull : (ksR 32 t []).take i = ksR 32 t [] := List.take_of_length_le (by rw [HKL.out, ← HT.out.2.2.2.2.1]; exact Nat.le_refl _)
        have RF := RO.out
        rw [hfull] at RF
        have RF2 := Lib.hid RF
        clear hlt hi hfull RF
        go_wp2_with fail
        go_ret3
        refine ⟨.slice oa i oc, by rw [HE.out.1, HE.out.2.1]; try rfl, ?_, by first | exact B5.out | (rw [← HEB.out]; exact B5.out)⟩
        rw [HE.out.2.2]
        exact RF2.out.mono (by have := HEB.out; omega)
  · obtain ⟨q, rfl⟩ : ∃ q : Nat, wv = q := ⟨wv.toNat, by omega⟩
    obtain ⟨d, hd⟩ : ∃ d, l[q]? = some d := ⟨_, List.getElem?_eq_getElem (by have := HT.out.2.2.2.2.2; omega)⟩
    obtain ⟨b, off, x, rfl, hbB, hxl, ⟨kv, rfl, hkv⟩, hx⟩ := HS.out.at_ hd
    have x0 := hx 0 _ rfl
    simp only [Nat.add_zero] at x0
    have y0 : w4.cell? ⟨b, off + q * 4, none⟩ = some (.int .i64 d.kind) := ((HW.out.trans (B4.out.mono HW.out.size)).cell (p := ⟨b, off + q * 4, none⟩) hbB).trans x0
    have hne : ¬ wR 32 t [] 0 < 0 := by rw [HWR.out]; omega
    have hat : atN t = (q : Int) := by unfold atN; rw [if_neg hne, HWR.out]
    have her : errN l t = if d.kind = 7 then 91 else 90 := by unfold errN; rw [if_neg hne, HWR.out, Int.toNat_natCast, hd]
    have hks : kindsT t = [] := by unfold kindsT; rw [if_neg hne]
    have HE := Lib.hid (And.intro hat (And.intro her hks))
    have dq : decide ((0 : Int) ≤ (q : Int)) = true := by simp
    clear hd hxl hkv hx x0 hne hat her hks c3
    by_cases h7 : d.kind = 7
    all_goals
      first | have e7 : (d.kind == 7) = true := by (rw [h7]; rfl) | have e7 : (d.kind == 7) = false := by (simpa using h7)
      have H7 := Lib.hid h7
      clear h7
      go_wp2_with fail
      go_ret3
      refine ⟨.slice none 0 0, ?_, by rw [HE.out.2.2]; exact ⟨[], World.ownsRow_nil _ _ _ _, FlatR.nil_⟩, B4.out⟩
      rw [HE.out.1, HE.out.2.1]
      first | (rw [if_pos H7.out]; try rfl) | (rw [if_neg H7.out]; try rfl)
end Go.Proofs.YtidkbodmiegbkaaDoor
