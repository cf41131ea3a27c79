/- Chapter 09: the program's Free of an expression: the free names, in order. -/
import Derived.Test.YtidkbodmiegbkaaGreatDoorKfG
import Derived.Test.YtidkbodmiegbkaaGreatDoorKfD
import Derived.Test.YtidkbodmiegbkaaGreatDoorShelfS
namespace Go.Proofs.YtidkbodmiegbkaaGreatDoor
set_option linter.unusedSimpArgs false
set_option linter.unusedVariables false
open Go.RowKit Go.Maps

theorem info_S9 : (Tryz.prog.info? 9).map (fun i => (i.zero, i.size, i.bytes)) = some (some (.string ⟨#[]⟩), 1, 16) := by kernel_rfl
theorem Own1.other {α : Type} {w w' : World} {base size r : Nat} {e : TypeId} {R : List Value → α → Prop} {v : Value} {l : List α} (h : Own1 w base e size R v l) (hg : w.grownBy w' (some r)) (hr : r < base) : Own1 w' base e size R v l := by
  obtain ⟨xs, h1, h2⟩ := h
  refine ⟨xs, h1.kept hg ?_, h2⟩
  rcases h1.2 with ⟨rfl, _⟩ | ⟨g, cap, cur, rfl, hb, _⟩
  · exact .inl rfl
  · right
    simp [Value.ownBlock]
    omega
theorem few_in {α : Type} [BEq α] [LawfulBEq α] : ∀ (o F : List α), o.Nodup → (∀ x ∈ o, x ∈ F) → o.length ≤ F.length
  | [], F, _, _ => Nat.zero_le _
  | x :: o, F, hn, h => by
    have hn' := List.nodup_cons.1 hn
    have hx := h x (by simp)
    have := few_in o (F.erase x) hn'.2 (fun y hy => (List.mem_erase_of_ne (fun e : y = x => hn'.1 (by rw [← e]; exact hy))).2 (h y (by simp [hy])))
    rw [List.length_erase_of_mem hx] at this
    have := List.length_pos_of_mem hx
    rw [List.length_cons]
    omega
theorem free_few {t : Tr} (hd : t.deep ≤ 32) (hsz : t.size ≤ 256) {o : List (List Nat)} (hn : o.Nodup) (hin : ∀ s ∈ o, s ∈ frR 32 t [] []) : o.length ≤ 256 := by
  have h := few_in (o.map some) (frS 32 t []) (List.pairwise_map.2 (hn.imp fun {a b} hab e => hab (Option.some.inj e))) (fun x hx => by
    obtain ⟨s, hs, rfl⟩ := List.mem_map.1 hx
    exact ((fr_mem 32 t [] [] s).1 (hin s hs)).resolve_left (by simp))
  rw [List.length_map, frS_len 32 t [] hd] at h
  omega
theorem free_names {l : List ND} {t : Tr} (hok : ∀ d ∈ l, NdOk d) (hg : t.Good) (hd : t.deep ≤ 32) (hun : Und l [] 0 t) : ∀ s ∈ frR 32 t [] [], NameOk s := by
  intro s hs
  have h := ((fr_mem 32 t [] [] s).1 hs).resolve_left (by simp)
  obtain ⟨i, hi⟩ := List.mem_iff_getElem?.1 h
  have hl := (List.getElem?_eq_some_iff.1 hi).1
  rw [frS_len 32 t [] hd] at hl
  obtain ⟨u, vs', hgu, hu, hdu, he⟩ := und_free hg hd hun i hl
  rw [hi] at he
  injection he with he
  obtain ⟨k, s', m, ks⟩ := u
  simp only [flagT] at he
  split at he
  · injection he with he
    subst he
    have h1 := (stands_node hu.stands).1
    have h2 := hok _ (List.mem_iff_getElem?.2 ⟨_, h1⟩)
    exact ⟨h2.1, h2.2.1⟩
  · cases he
set_option maxRecDepth 100000 in
set_option maxHeartbeats 8000000 in
theorem free_ok {t : Tr} {v : Value} (w w0 : World) (hs : SlR w0 w0.heap.size 4 (ND.Is w0 w0.heap.size) v (ndsT t 0)) (hok : ∀ d ∈ ndsT t 0, NdOk d) (hm : Marks w0) (hp : Pow w0) (htk : TakesB w0) (hw : Below w0.heap.size w0 w) (hg : t.Good) (hd : t.deep ≤ 32) (hsz : t.size ≤ 256) :
    Calls Tryz.prog 13 #[.agg #[v]] w fun e w' => ∃ (a : Option Addr) (c : Nat) (L : List ByteArray), e = .returned (.tuple #[.slice a L.length c, .int .i64 0]) ∧ L.length ≤ 256 ∧ FreeL (frR 32 t [] []) L ∧ Own1 w' w.heap.size 9 1 IsText (.slice a L.length c) L ∧ Below w.heap.size w w' := by
  obtain ⟨a, c, rfl⟩ : ∃ a c, v = .slice a (ndsT t 0).length c := by obtain ⟨a, c, h, _⟩ := hs.form; exact ⟨a, c, h⟩
  obtain ⟨n, hn⟩ : ∃ n, (ndsT t 0).length = n := ⟨_, rfl⟩
  have HL := Lib.hid (look_ok (w.alloc (.cells #[.slice a n c] 24)) w0 (hn ▸ hs) hok hm hp htk (hw.alloc hw.size _) hg hd hsz)
  obtain ⟨av, hav⟩ : ∃ z, atN t = z := ⟨_, rfl⟩
  obtain ⟨ev, hev⟩ : ∃ z, errN (ndsT t 0) t = z := ⟨_, rfl⟩
  obtain ⟨F, hF⟩ : ∃ z, frR 32 t [] [] = z := ⟨_, rfl⟩
  have HF : Hid (∀ o : List (List Nat), o.Nodup → (∀ s ∈ o, s ∈ F) → o.length ≤ 256) := Lib.hid (fun o h1 h2 => free_few hd hsz h1 (hF ▸ h2))
  have HNF : Hid (∀ s ∈ F, NameOk s) := Lib.hid (hF ▸ free_names hok hg hd (Und.root (stands_nds t) (nds_len t 0)))
  unfold LookK at HL
  rw [hav, hev, hF] at HL
  rw [hn, hF]
  obtain ⟨jS, hi, hz, hsz2, hby⟩ := info_parts info_S9
  have I := Lib.hid (And.intro hi (And.intro hz (And.intro hsz2 hby)))
  clear hs hok hm hp hw hg hd hsz hn hav hev hF htk hi hz hsz2 hby
  go_enter Tryz.func13, Tryz.ntmps13
  go_wp2_with (first
    | (go_at_call 19; go_must (refine HL.out.mono ?_); rintro e w3 ⟨g, bm, kb, fm, nb, nf, K, rfl, hks, _, _, hb, _, hfm, hnf⟩
       go_must (have KS := Lib.hid hks)
       go_must (have y3 : w3.cell? ⟨g, 3, none⟩ = some (.map (some fm)) := hks.blk.cell rfl)
       go_must (have B3 : Hid (Below w.heap.size w w3) := Lib.hid (((Below.refl _ _).alloc (Nat.le_refl _) _).trans (hb.mono (by simp <;> omega))))
       go_must (have FM := Lib.hid (And.intro hks.fre.lt (And.intro hfm hnf)))
       clear hks hb hfm hnf)
    | (at_range; go_must (refine wpList_rangeF rfl _ rfl KS.out.fre rfl ?_); intro w4 cnt hrg hgr hsz
       have R4 := Lib.hid (And.intro hrg (And.intro hgr hsz)); clear hrg hgr hsz)
    | fail)
  go_frame
  obtain ⟨r, hr⟩ : ∃ z, w3.heap.size = z := ⟨_, rfl⟩
  have HR := Lib.hid hr
  rw [hr] at R4 ⊢
  clear hr y3
  have B4 : Hid (Below w.heap.size w w4) := Lib.hid (B3.out.grown R4.out.2.1 B3.out.size (fun b hb => by cases hb))
  go_loopw [7, 8] (fun v7 v8 wr => ∃ (o : List (List Nat)) (cnt : Nat), Hid (RngF wr fm r nf F o cnt ∧ Own1 wr (r + 1) 9 1 IsText v7 (o.map txt) ∧ Below w.heap.size w wr ∧ r < wr.heap.size)) (fun _ _ wr => wr.rangeLeft fm r)
  case atStart => exact ⟨[], _, Lib.hid ⟨R4.out.1, ⟨[], ⟨rfl, .inl ⟨rfl, rfl⟩⟩, FlatR.nil_⟩, B4.out, by have := R4.out.2.2; have := HR.out; omega⟩⟩
  case round =>
    obtain ⟨o, cnt, hrr⟩ := hrel
    have RG := Lib.hid hrr.out.1
    have RO0 := hrr.out.2.1
    have B5 := Lib.hid hrr.out.2.2.1
    have r5 := hrr.out.2.2.2
    clear hrr
    obtain ⟨oa, oc, rfl⟩ := RO0.form
    obtain ⟨k, hk⟩ : ∃ k, (o.map txt).length = k := ⟨_, rfl⟩
    rw [hk] at RO0 ⊢
    have RO := Lib.hid RO0
    have HK := Lib.hid hk
    have hk2 : k ≤ 256 := by
      obtain ⟨_, _, _, _, _, h4, h5⟩ := RG.out
      rw [← hk, List.length_map]
      exact HF.out o h4 (fun s hs => (h5 s hs).1)
    clear RO0 hk
    go_wp2_with (first
      | (at_next; refine wpList_nextF rfl _ rfl rfl RG.out ?_ ?_)
      | fail)
    · intro hall
      have HA := Lib.hid hall
      clear hall
      have GA : Hid (FreeL F ((((o.map txt).map bsL).mergeSort fun x y => decide (x ≤ y)).map ofL)) := Lib.hid (by
        obtain ⟨_, _, _, h2, _, h4, h5⟩ := RG.out
        exact gathered h4 h5 (fun s hs => HA.out s (HNF.out s hs) hs))
      rcases Nat.eq_zero_or_pos k with hk0 | hk0
      · subst hk0
        have ho : o.map txt = [] := List.eq_nil_of_length_eq_zero HK.out
        have HO := Lib.hid ho
        clear ho
        go_wp2_with (first
          | (go_at_call 22; go_must (refine (Tryz.slices_Sort_string_none oa oc _).mono ?_); rintro e w' ⟨rfl, rfl⟩)
          | fail)
        go_ret2
        have g0 := GA.out
        have r0 := RO.out
        rw [HO.out] at g0 r0
        exact ⟨oa, oc, [], rfl, by simp, by simpa using g0, r0.mono (by have := HR.out; have := B3.out.size; omega), B5.out⟩
      · have ho' : Own1 wr (r + 1) 9 1 IsText (.slice oa (o.map txt).length oc) (o.map txt) := by rw [HK.out]; exact RO.out
        obtain ⟨gb, rfl, hbg, hgl, hnc, hcm, hH⟩ := texts_holds ho' (by rw [HK.out]; exact hk0)
        obtain ⟨ss, hss⟩ : ∃ ss, (o.map txt).map bsL = ss := ⟨_, rfl⟩
        have hsl : ss.length = k := by rw [← hss, List.length_map, HK.out]
        rw [hss] at hH
        have hsort := Tryz.slices_Sort_string gb 0 oc ss wr hH hgl (by omega)
        rw [hsl] at hsort
        have hsm : ∀ s ∈ o.map txt, s.size ≤ maxLen := by
          intro s hs
          obtain ⟨x, hx, rfl⟩ := List.mem_map.1 hs
          obtain ⟨_, _, _, _, _, _, h5⟩ := RG.out
          have := (h5 x hx).2.2
          rw [txt_size]
          unfold maxLen
          omega
        have HE := Lib.hid (fun (nn : Nat) (os : Array Obj) => sort_end (nn := nn) (os := os) ho' hsm B5.out (by have := HR.out; have := B3.out.size; omega))
        have HSS := Lib.hid hss
        have HSL := Lib.hid hsl
        have HSO := Lib.hid hsort
        clear hH ho' hss hsl hsort hsm hnc hcm
        go_wp2_with (first
          | (go_at_call 22; go_must (refine HSO.out.mono ?_); rintro e w2 ⟨rfl, nn, os, rfl⟩)
          | fail)
        go_ret2
        have he := HE.out nn os
        rw [HSS.out, HK.out] at he
        have g0 := GA.out
        rw [HSS.out] at g0
        have e0 : ((ss.mergeSort fun x y => decide (x ≤ y)).map ofL).length = k := by rw [List.length_map, List.length_mergeSort, HSL.out]
        exact ⟨some ⟨gb, 0, none⟩, oc, (ss.mergeSort fun x y => decide (x ≤ y)).map ofL, by rw [e0]; rfl, by rw [e0]; exact hk2, g0, by rw [e0]; exact he.1.mono (by have := HR.out; have := B3.out.size; omega), he.2⟩
    · intro s x w6 cnt' hs hsF hso hrg hlt hgr hsz hen
      have R6 := Lib.hid (And.intro hrg (And.intro hlt hgr))
      have RO6 : Hid (Own1 w6 (r + 1) 9 1 IsText (.slice oa k oc) (o.map txt)) := Lib.hid (RO.out.other hgr (by omega))
      have B6 : Hid (Below w.heap.size w w6) := Lib.hid (B5.out.grown hgr B5.out.size (fun b hb => by injection hb with hb; have := HR.out; have := B3.out.size; omega))
      have HNM := Lib.hid hs
      have ht : (txt s).size ≤ maxLen := by have := hs.2; rw [txt_size]; unfold maxLen; omega
      have HT := Lib.hid ht
      have r6 : r < w6.heap.size := by omega
      have HZ := Lib.hid hsz
      clear hrg hlt hgr hs hsF hso hsz ht
      go_wp2_with (first
        | (at_builtin
           go_must (refine wpList_append_list rfl (.tmp 27) (.tmp 29) _ (by rfl) (r + 1) (w6.heap.size + 1) 9 jS _ 1 16 Tryz.underlying36 I.out.1 I.out.2.1 I.out.2.2.1 I.out.2.2.2 rfl (by omega) (R := IsText) (l := o.map txt) (m := [txt s]) (.slice oa k oc) (by rfl) (by exact RO6.out.alloc (.cells #[.string (txt s)] 9)) (some ⟨w6.heap.size, 0, none⟩) 1 1 (by rfl) (SlR.new1 (w := w6) (e := 9) (g := w6.heap.size) rfl (x := [.string (txt s)]) rfl (R := IsText) (y := txt s) ⟨rfl, HT.out⟩) (k + 1) (by rw [HK.out]) (fun x y hx u hu => by rw [hx.1] at hu; simp at hu; subst hu; rfl) (by have := HK.out; unfold maxLen; simp at this ⊢; omega) (by have := HK.out; simp at this ⊢; omega) (by simp; omega) ?_)
           intro a7 c7 w7 hown hgr
           go_must (have R7 := Lib.hid ((R6.out.1.alloc (.cells #[.string (txt s)] 9)).kept hgr (fun e => by have := (RO6.out.block fm e.symm).1; have := FM.out.1; have := HR.out; omega) (fun e => by have := (RO6.out.block r e.symm).1; omega)))
           go_must (have B7 := Lib.hid ((B6.out.alloc B6.out.size (.cells #[.string (txt s)] 9)).grown hgr (by have := B6.out.size; simp; omega) (fun b hb => by have := (RO6.out.block b hb).1; have := HR.out; have := B3.out.size; omega)))
           have RO7 := Lib.hid hown
           have G7 := Lib.hid hgr
           clear hown hgr)
        | fail)
      go_roundw
      case rel => exact ⟨o ++ [s], cnt', Lib.hid ⟨R7.out, by rw [List.map_append]; exact RO7.out, B7.out, by have := G7.out.size; simp at this; omega⟩⟩
      case measure => rw [R7.out.left_eq, RG.out.left_eq]; exact R6.out.2.1
end Go.Proofs.YtidkbodmiegbkaaGreatDoor
