/- The program's 'flat': a tree as a list, behind what there is. -/
import Derived.Test.YtlenenfgedgmhaaDoorFlat0
namespace Go.Proofs.YtlenenfgedgmhaaDoor
set_option linter.unusedSimpArgs false
set_option linter.unusedVariables false
open Go.RowKit

theorem info_enode : (Tryd.prog.info? 46).map (fun i => (i.zero, i.size, i.bytes)) = some (some (.agg #[.int .i64 0, .string .empty, .int .i64 0, .slice none 0 0]), 4, 56) := by kernel_rfl
theorem info_int : (Tryd.prog.info? 3).map (fun i => (i.zero, i.size, i.bytes)) = some (some (.int .i64 0), 1, 8) := by kernel_rfl
theorem IsEN.one : ∀ x y, IsEN x y → ∀ u ∈ x, u.oneCell' = true := by
  intro x y h u hu
  obtain ⟨rfl, a, n, c, h2⟩ := h
  rw [h2] at hu
  simp at hu
  rcases hu with rfl | rfl | rfl | rfl <;> rfl
theorem IsNat.one : ∀ x y, IsNat x y → ∀ u ∈ x, u.oneCell' = true := by
  intro x y h u hu
  unfold IsNat at h
  subst h
  simp at hu
  subst hu
  rfl
/-- what it comes to -/
def FlatIs (B : Nat) (X : World) (t : Tr) (es : List (EN × Value)) (e : Ending) (w' : World) : Prop :=
  ∃ (v' : Value) (es' : List (EN × Value)), e = .returned (.tuple #[v', .int .i64 (t.deep : Int)]) ∧ EL w' B v' (es ++ es') ∧ es'.map (·.1) = t.flat es.length ∧ Below B X w'
set_option maxRecDepth 100000 in
set_option maxHeartbeats 8000000 in
theorem p_flat (lo : Nat) (W0 : World) : ∀ (N : Nat) (t : Tr) (g : Nat) (X : World) (v : Value) (es : List (EN × Value)), t.size ≤ N → TreeAt W0 lo t g → Below W0.heap.size W0 X → EL X W0.heap.size v es → es.length + t.size ≤ 5000 →
    Calls Tryd.prog 25 #[.pointer (some ⟨g, 0, none⟩), v] X (FlatIs W0.heap.size X t es) := by
  intro N
  induction N with
  | zero => intro t g X v es h; have := size_pos t; omega
  | succ N ih =>
  intro t g X v es hN ht hX hE hsz
  obtain ⟨kd, s, nm, ks⟩ := t
  simp only [TreeAt, TreeIn] at ht
  obtain ⟨_, kv, gs, hbox, hrow, _, htr⟩ := ht
  have hszk : sizeL ks ≤ N := by simp only [Tr.size] at hN; omega
  simp only [Tr.size] at hsz
  obtain ⟨a, c, rfl⟩ := hE.main.form
  obtain ⟨p, hp⟩ : ∃ p, es.length = p := ⟨_, rfl⟩
  obtain ⟨ka, kc, rfl⟩ := hrow.form
  obtain ⟨m, hm⟩ : ∃ m, gs.length = m := ⟨_, rfl⟩
  have hmk : ks.length = m := by rw [← hm]; exact (TreesIn.len htr).symm
  have b0 : Blk X g 91 _ := hbox.below hX hbox.lt
  have c0 : X.cell? ⟨g, 0, none⟩ = some (.int .i64 (kd : Int)) := b0.cell rfl
  have c1 : X.cell? ⟨g, 1, none⟩ = some (.string (txt s)) := b0.cell rfl
  have c2 : X.cell? ⟨g, 2, none⟩ = some (.int .i64 nm) := b0.cell rfl
  have c3 : X.cell? ⟨g, 3, none⟩ = some (.slice none 0 0) := b0.cell rfl
  have lg : g < W0.heap.size := hbox.lt
  have HBX := Lib.hid hbox
  have HIH := Lib.hid ih
  have HX := Lib.hid hX
  have HEM : Hid (EL X W0.heap.size (.slice a p c) es) := Lib.hid (by rw [← hp]; exact hE)
  have HE := Lib.hid hE
  have HROW := Lib.hid (hrow.read (by omega))
  have HTR := Lib.hid htr
  have Hp := Lib.hid hp
  have Hm := Lib.hid hm
  have Hmk := Lib.hid hmk
  rw [hp] at hsz ⊢
  rw [hm] at HROW HBX
  have m63 : m ≤ 9223372036854775807 := by have := HROW.out.caps; unfold maxLen at this; omega
  have p5 : (p : Int) ≤ 5000 := by omega
  obtain ⟨jE, hi, hz, hs2, hby⟩ := info_parts info_enode
  have IE := Lib.hid (And.intro hi (And.intro hz (And.intro hs2 hby)))
  clear hi hz hs2 hby
  obtain ⟨jI, hi, hz, hs2, hby⟩ := info_parts info_int
  have II := Lib.hid (And.intro hi (And.intro hz (And.intro hs2 hby)))
  clear hi hz hs2 hby ih hX hE hrow htr hp hm hmk hbox b0 hN
  go_enter Tryd.func25, Tryd.ntmps25
  go_wp2_with (first
    | (at_builtin; refine wpList_append_list rfl (.tmp 14) (.tmp 19) _ rfl W0.heap.size (X.heap.size + 1) 46 jE _ 4 56 Tryd.underlying22 IE.out.1 IE.out.2.1 IE.out.2.2.1 IE.out.2.2.2 rfl (by omega) (R := IsEN) (l := es) (m := [(⟨kd, s, nm, []⟩, .slice none 0 0)]) (.slice a p c) ?_ (by exact HEM.out.main.alloc (.cells #[.int .i64 (kd : Int), .string (txt s), .int .i64 nm, .slice none 0 0] 46)) (some ⟨X.heap.size, 0, none⟩) 1 1 ?_ (by exact SlR.new1 (x := [.int .i64 (kd : Int), .string (txt s), .int .i64 nm, .slice none 0 0]) rfl rfl ⟨rfl, _, _, _, rfl⟩) (p + 1) (by rw [Hp.out]) IsEN.one (by rw [Hp.out]; unfold maxLen; omega) (by rw [Hp.out]; omega) (by have := HX.out.size; rw [World.size_alloc]; omega) ?_; rfl; rfl; intro oa oc w2 hown hgr; have O2 := Lib.hid (And.intro hown hgr); have B2 : Below W0.heap.size X w2 := ((Below.refl W0.heap.size X).alloc HX.out.size _).grown hgr (by have := HX.out.size; rw [World.size_alloc]; omega) (fun g' hg' => (HEM.out.main.block g' hg').1); have c4 : w2.cell? ⟨g, 4, none⟩ = some (.slice ka m kc) := (HBX.out.below (HX.out.trans B2) lg).cell rfl; have HB2 := Lib.hid B2; clear B2 hown hgr))
  have E2 : Hid (EL w2 W0.heap.size (.slice oa (p + 1) oc) (es ++ [(⟨kd, s, nm, []⟩, .slice none 0 0)])) := Lib.hid ((HEM.out.alloc (.cells #[.int .i64 (kd : Int), .string (txt s), .int .i64 nm, .slice none 0 0] 46)).push rfl (by have := O2.out.1; exact this) (by have := O2.out.2; exact this))
  clear c0 c1 c2 c3 c4 O2
  go_loopw [1, 7, 9, 10, 11, 26] (fun v d _ _ _ i wr => ∃ (j : Nat) (a' : Option Addr) (n' c' : Nat) (kv : Value) (es2 : List (EN × Value)), j ≤ m ∧ i = .int .i64 (j : Int) ∧ v = .slice a' n' c' ∧ d = .int .i64 (deepL (ks.take j) : Int) ∧ Hid (n' = p + 1 + sizeL (ks.take j)) ∧ Hid (EL wr W0.heap.size (.slice a' n' c') (es ++ (⟨kd, s, nm, placesL (ks.take j) (p + 1)⟩, kv) :: es2)) ∧ Hid (es2.map (·.1) = flatL (ks.take j) (p + 1)) ∧ Hid (Below W0.heap.size X wr)) (fun _ _ _ _ _ i _ => m - (intOf i).toNat)
  case atStart => exact ⟨0, oa, p + 1, oc, .slice none 0 0, [], Nat.zero_le _, rfl, rfl, rfl, Lib.hid (by simp [sizeL]), E2, Lib.hid (by simp [flatL]), HB2⟩
  case round =>
    obtain ⟨j, a', n', c', kv, es2, hj, rfl, rfl, rfl, hn', hEL, hes2, hB⟩ := hrel
    have HN := hn'
    have HEL := hEL
    have HES := hes2
    have HB := hB
    clear hn' hEL hes2 hB E2 HB2
    by_cases hlt : j < m
    · obtain ⟨gk, hgk⟩ := get_some Hm.out hlt
      obtain ⟨tk, htk⟩ := get_some Hmk.out hlt
      have hLp := get_mid es es2 (⟨kd, s, nm, placesL (ks.take j) (p + 1)⟩, kv) p Hp.out
      obtain ⟨gm, rfl, hgm, hgml, hfz, hat⟩ := HEL.out.main.at00 (by simp; omega) (by omega)
      obtain ⟨x0, hx0, ⟨rfl, ak, nk, ck, hkv⟩, hc0⟩ := hat p _ hLp
      simp only at hkv
      subst hkv
      have u3 : wr.cell? ⟨gm, p * 4 + 3, none⟩ = some (.slice ak nk ck) := hc0 3 _ rfl
      have hnk : nk = (placesL (ks.take j) (p + 1)).length := by
        obtain ⟨a9, c9, h9⟩ := (HEL.out.kids p _ hLp).form
        injection h9
      have hszj := sizeL_take_le ks j
      have hpl : (placesL (ks.take j) (p + 1)).length ≤ 5000 := by rw [placesL_len]; have := len_le_size (ks.take j); omega
      have hn5 : n' ≤ 5000 := by have := HN.out; omega
      have hpn : (p : Int) < (n' : Int) := by have := HN.out; omega
      have hpn2 : p < n' := by have := HN.out; omega
      have p0 : (0 : Int) ≤ (p : Int) := Int.natCast_nonneg _
      obtain ⟨b1, off1, x1, rfl, hb1, hx1, rfl, hc1⟩ := (HROW.out.below (HX.out.trans (HB.out.mono (Nat.le_refl _)))).at_ hgk
      have k0 := hc1 0 _ rfl
      simp only [Nat.add_zero, Nat.mul_one] at k0
      have HLp := Lib.hid hLp
      have Hnk := Lib.hid hnk
      have Hpl := Lib.hid hpl
      have Htk := Lib.hid htk
      have Hgk := Lib.hid hgk
      have Hfz := Lib.hid hfz
      have Hgml := Lib.hid hgml
      clear hx0 hc0 hat hx1 hc1 hLp hnk hpl htk hgk hfz hgm
      go_wp2_with (first
        | (at_builtin; refine wpList_append_list2 rfl (.tmp 36) (.tmp 39) _ rfl W0.heap.size (wr.heap.size + 1) 3 jI _ 1 8 Tryd.underlying44 II.out.1 II.out.2.1 II.out.2.2.1 II.out.2.2.2 rfl (by omega) (R := IsNat) (l := placesL (ks.take j) (p + 1)) (m := [n']) (.slice ak nk ck) ?_ (by exact (HEL.out.kids p _ HLp.out).alloc (.cells #[.int .i64 (n' : Int)] 3)) (some ⟨wr.heap.size, 0, none⟩) 1 1 ?_ (by exact SlR.new1 (x := [.int .i64 (n' : Int)]) rfl rfl rfl) (nk + 1) (by rw [Hnk.out]) IsNat.one (by have := Hpl.out; unfold maxLen; omega) (by have := Hpl.out; omega) (by have := HX.out.size; have := HB.out.size; rw [World.size_alloc]; omega) ?_; rfl; rfl; intro ak2 ck2 w3 hown hgr hat3; have O3 := Lib.hid (And.intro hown (And.intro hgr hat3)); have m3 := ((HEL.out.alloc (.cells #[.int .i64 (n' : Int)] 3)).main.kept1 ((HEL.out.alloc (.cells #[.int .i64 (n' : Int)] 3)).kids p _ HLp.out) (by decide) hgr); obtain ⟨gm2, e2, _, _, hfz3, hat4⟩ := m3.at00 (by simp; omega) (by omega); injection e2 with e2; injection e2 with e2; subst e2; obtain ⟨x5, hx5, ⟨rfl, _⟩, hc5⟩ := hat4 p _ HLp.out; have u5 : w3.cell? ⟨gm, p * 4 + 3, none⟩ = some (.slice ak nk ck) := hc5 3 _ rfl; have z5 := hfz3 (p * 4 + 3); clear hown hgr hat3 hfz3 hat4 hx5 hc5))
      have E3 := HEL.out.kid HLp.out ⟨_, _, _, rfl⟩ (.cells #[.int .i64 (n' : Int)] 3) O3.out.1 O3.out.2.1 (by have := O3.out.2.2; rw [World.size_alloc] at this; exact this)
      rw [set_mid es es2 _ _ p Hp.out] at E3
      have B3 : Below W0.heap.size X (w3.setCell ⟨gm, p * 4 + 3, none⟩ (.slice ak2 (nk + 1) ck2)) := (((HB.out.alloc (Nat.le_trans HX.out.size HB.out.size) (.cells #[.int .i64 (n' : Int)] 3)).grown O3.out.2.1 (by have := HX.out.size; have := HB.out.size; rw [World.size_alloc]; omega) (fun g' hg' => ((HEL.out.kids p _ HLp.out).block g' hg').1))).setCell (p := ⟨gm, p * 4 + 3, none⟩) ((HEL.out.main.block gm rfl).1) _
      have hes2 : es2.length = sizeL (ks.take j) := by have := congrArg List.length HES.out; rw [List.length_map, trFlatL_len] at this; exact this
      have htk1 := take_snoc1 Htk.out
      have hszt := sizeL_take_le ks (j + 1)
      rw [htk1, sizeL_app] at hszt
      simp only [sizeL] at hszt
      have HE3 := Lib.hid E3
      have HB3 := Lib.hid B3
      have HT1 := Lib.hid htk1
      have Hes2 := Lib.hid hes2
      have CC := HIH.out tk gk _ (.slice (some ⟨gm, 0, none⟩) n' c') _ (Nat.le_trans (size_mem (List.mem_iff_getElem?.2 ⟨j, Htk.out⟩)) hszk) (TreesIn.get HTR.out Htk.out Hgk.out) (HX.out.trans B3) E3 (by rw [List.length_append, Hp.out, List.length_cons, hes2]; omega)
      have HCC := Lib.hid CC
      clear E3 B3 htk1 hes2 CC
      refine HCC.out.mono ?_
      rintro e w4 ⟨v4, es4, rfl, hE4, hm4, hB4⟩
      obtain ⟨a4, c4, rfl⟩ := hE4.main.form
      have HE4 := Lib.hid hE4
      have HM4 := Lib.hid hm4
      have HB4 := Lib.hid (HB3.out.trans hB4)
      obtain ⟨n4, hn4⟩ : ∃ z, (es ++ (⟨kd, s, nm, placesL (ks.take j) (p + 1) ++ [n']⟩, Value.slice ak2 (nk + 1) ck2) :: es2 ++ es4).length = z := ⟨_, rfl⟩
      rw [hn4]
      have HN4 := Lib.hid hn4
      clear hE4 hm4 hB4 HCC hn4 u3 u5 z5 k0
      go_wp2_with fail
      go_roundw
      case rel =>
        have hn1 : n' = p + 1 + sizeL (ks.take j) := HN.out
        have hpl1 : placesL (ks.take (j + 1)) (p + 1) = placesL (ks.take j) (p + 1) ++ [n'] := by rw [HT1.out, placesL_app, hn1]; rfl
        have hlen4 : es4.length = tk.size := by have := congrArg List.length HM4.out; rw [List.length_map, trFlat_len] at this; exact this
        refine ⟨j + 1, a4, n4, c4, .slice ak2 (nk + 1) ck2, es2 ++ es4, by omega, by go_num, rfl, ?_, Lib.hid ?_, Lib.hid ?_, Lib.hid ?_, HB4⟩
        · rw [HT1.out, deepL_app]
          simp only [deepL]
          congr 1
          split <;> omega
        · rw [← HN4.out, HT1.out, sizeL_app]
          simp only [List.length_append, List.length_cons, sizeL, Hp.out, Hes2.out, hlen4]
          omega
        · rw [hpl1]
          have := HE4.out
          rw [HN4.out] at this
          rw [List.append_assoc, List.cons_append] at this
          exact this
        · rw [List.map_append, HES.out, HM4.out, HT1.out, flatL_app]
          simp only [List.length_append, List.length_cons, Hp.out, Hes2.out, flatL, List.append_nil]
          congr 2
          omega
      case measure => simp [intOf]; omega
    · have hjm : j = m := by omega
      subst hjm
      clear hlt
      have hsz2 := hsz
      have hdd : deepL (ks.take j) ≤ 5000 := by have := deepL_le (ks.take j); have := sizeL_take_le ks j; omega
      have hd63 : (deepL (ks.take j) : Int) ≤ 5000 := by omega
      have hd0 : (0 : Int) ≤ (deepL (ks.take j) : Int) := Int.natCast_nonneg _
      have htk : ks.take j = ks := List.take_of_length_le (by rw [Hmk.out]; exact Nat.le_refl _)
      have HTK := Lib.hid htk
      clear htk hdd
      go_wp2_with fail
      go_ret2
      refine ⟨.slice a' n' c', (⟨kd, s, nm, placesL (ks.take j) (p + 1)⟩, kv) :: es2, ?_, HEL.out, ?_, HB.out⟩
      · show Ending.returned (.tuple #[.slice a' n' c', .int .i64 ((deepL (ks.take j) : Int) + 1)]) = _
        rw [HTK.out]
        rfl
      · rw [List.map_cons, HES.out, HTK.out, Hp.out]
        rfl
end Go.Proofs.YtlenenfgedgmhaaDoor
