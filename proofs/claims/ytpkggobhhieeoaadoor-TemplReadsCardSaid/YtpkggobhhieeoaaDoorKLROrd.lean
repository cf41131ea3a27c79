/- - -/
import Derived.Test.YtpkggobhhieeoaaDoorKM8
import Derived.Test.YtpkggobhhieeoaaDoorKLRScan
set_option maxRecDepth 100000
set_option maxHeartbeats 32000000
set_option linter.unusedSimpArgs false
set_option linter.unusedVariables false
namespace Go.Proofs.YtpkggobhhieeoaaDoor
open Go.RowKit
theorem r_order (W0 : World) (ma : Option Addr) (mn mc : Nat) (MS : List EN) (hM : SlR W0 W0.heap.size 4 (ENode.Is W0 W0.heap.size) (.slice ma mn mc) MS) : ∀ (N : Nat) (t : Tr) (g : Nat) (X : World) (v : Value) (es : List (EN × Value)), t.size ≤ N → Rep MS t g → Below W0.heap.size W0 X → EL X W0.heap.size v es → es.length + t.size ≤ 5000 →
    Calls Tryd.prog 48 #[.slice ma mn mc, .int .i64 (g : Int), v] X (OrdIs W0.heap.size X v t es) := by
  intro N
  induction N with
  | zero => intro t g X v es h; have := size_pos t; omega
  | succ N ih =>
  intro t g X v es hN ht hX hE hsz
  obtain ⟨kd, s, nm, ks⟩ := t
  simp only [Rep] at ht
  obtain ⟨gs, hg, hreps⟩ := ht
  have hszk : sizeL ks ≤ N := by simp only [Tr.size] at hN; omega
  simp only [Tr.size] at hsz
  obtain ⟨a, c, rfl⟩ := hE.main.form
  obtain ⟨p, hp⟩ : ∃ p, es.length = p := ⟨_, rfl⟩
  have hgl := (List.getElem?_eq_some_iff.1 hg).1
  have hmn := hM.len
  have hmc := hM.caps
  obtain ⟨mb, mo, x, rfl, hmb, _, ⟨kv, rfl, hrow⟩, hcell⟩ := (hM.below hX).at_ hg
  have c0 : X.cell? ⟨mb, mo + g * 4, none⟩ = some (.int .i64 (kd : Int)) := hcell 0 _ rfl
  have c1 : X.cell? ⟨mb, mo + g * 4 + 1, none⟩ = some (.string (txt s)) := hcell 1 _ rfl
  have c2 : X.cell? ⟨mb, mo + g * 4 + 2, none⟩ = some (.int .i64 nm) := hcell 2 _ rfl
  have c3 : X.cell? ⟨mb, mo + g * 4 + 3, none⟩ = some kv := hcell 3 _ rfl
  obtain ⟨ka, kc, rfl, _⟩ := hrow.form
  simp only at hrow c3
  obtain ⟨m, hm⟩ : ∃ m, gs.length = m := ⟨_, rfl⟩
  have hmk : ks.length = m := by rw [← hm]; exact hreps.len.symm
  have g0 : (0 : Int) ≤ (g : Int) := Int.natCast_nonneg _
  have gl : (g : Int) < (mn : Int) := by rw [hmn]; omega
  have gl2 : g < mn := by rw [hmn]; exact hgl
  have HIH := zH ih
  have HX := zH hX
  have HEM : Hid (EL X W0.heap.size (.slice a p c) es) := zH (by rw [← hp]; exact hE)
  have HROW := zH hrow
  have HTR := zH hreps
  have Hp := zH hp
  have Hm := zH hm
  have Hmk := zH hmk
  rw [hp] at hsz ⊢
  rw [hm] at HROW c3
  have m63 : m ≤ 9223372036854775807 := by have := HROW.out.caps; unfold maxLen at this; omega
  have p5 : (p : Int) ≤ 5000 := by omega
  obtain ⟨jE, hi, hz, hs2, hby⟩ := info_parts info_enode
  have IE := zH (And.intro hi (And.intro hz (And.intro hs2 hby)))
  clear hi hz hs2 hby
  obtain ⟨jI, hi, hz, hs2, hby⟩ := info_parts info_int
  have II := zH (And.intro hi (And.intro hz (And.intro hs2 hby)))
  have HML := zH (And.intro hmn (And.intro hmc hgl))
  clear hi hz hs2 hby ih hX hE hrow hreps hp hm hmk hN hM hcell hg hmn hmc hgl
  have B1 : Hid (Below W0.heap.size X (X.alloc (.cells #[.int .i64 (kd : Int), .string (txt s), .int .i64 nm, .slice ka m kc] 116))) := zH ((Below.refl _ X).alloc HX.out.size _)
  have E1 : Hid (EL (X.alloc (.cells #[.int .i64 (kd : Int), .string (txt s), .int .i64 nm, .slice ka m kc] 116)) W0.heap.size (.slice a p c) es) := zH (HEM.out.alloc _)
  have K1 : Hid (Keeps X (.slice a p c) es (X.alloc (.cells #[.int .i64 (kd : Int), .string (txt s), .int .i64 nm, .slice ka m kc] 116)) (.slice a p c) es) := zH (Keeps.alloc _ _ _ _)
  have FR : Hid (Free (.slice a p c) es X.heap.size) := zH (Free.new HEM.out zL)
  have BK : Hid (Blk (X.alloc (.cells #[.int .i64 (kd : Int), .string (txt s), .int .i64 nm, .slice ka m kc] 116)) X.heap.size 116 #[.int .i64 (kd : Int), .string (txt s), .int .i64 nm, .slice ka m kc]) := zH (Blk.new X _ _)
  go_enter Tryd.func48, Tryd.ntmps48
  go_wp2_with (first
    | (at_builtin; refine wpList_append_list2 rfl (.tmp 19) (.tmp 27) _ rfl W0.heap.size ((X.alloc (.cells #[.int .i64 (kd : Int), .string (txt s), .int .i64 nm, .slice ka m kc] 116)).heap.size + 1) 116 jE _ 4 56 Tryd.underlying67 IE.out.1 IE.out.2.1 IE.out.2.2.1 IE.out.2.2.2 rfl (by omega) (R := IsEN) (l := es) (m := [(⟨kd, s, nm, []⟩, .slice none 0 0)]) (.slice a p c) ?_ (by exact E1.out.main.alloc (.cells #[.int .i64 (kd : Int), .string (txt s), .int .i64 nm, .slice none 0 0] 116)) (some ⟨(X.alloc (.cells #[.int .i64 (kd : Int), .string (txt s), .int .i64 nm, .slice ka m kc] 116)).heap.size, 0, none⟩) 1 1 ?_ (by exact SlR.new1 (x := [.int .i64 (kd : Int), .string (txt s), .int .i64 nm, .slice none 0 0]) rfl rfl ⟨rfl, _, _, _, rfl⟩) (p + 1) (by rw [Hp.out]) IsEN.one (by rw [Hp.out]; unfold maxLen; omega) (by rw [Hp.out]; omega) (by have := HX.out.size; have := B1.out.size; rw [World.size_alloc]; omega) ?_; rfl; (first | rfl | (simp only [World.size_alloc]; rfl)); intro oa oc w2 hown hgr hat; have O2 := zH (And.intro hown (And.intro hgr hat)); have B2 : Below W0.heap.size X w2 := (B1.out.alloc (Nat.le_trans HX.out.size B1.out.size) _).grown hgr (by have := HX.out.size; have := B1.out.size; rw [World.size_alloc]; omega) (fun g' hg' => (E1.out.main.block g' hg').1); have HB2 := zH B2; have hk2 := Keeps.push (es := es) (e := ⟨kd, s, nm, []⟩) (.cells #[.int .i64 (kd : Int), .string (txt s), .int .i64 nm, .slice none 0 0] 116) hgr hat; have K2 := zH hk2; have n3 : w2.cell? ⟨X.heap.size, 3, none⟩ = some (.slice ka m kc) := (World.cell?_of_block (hk2.2 X.heap.size (by rw [World.size_alloc]; omega) FR.out).1).trans (BK.out.cell rfl); clear hown hgr hat B2 hk2))
  have E2 : Hid (EL w2 W0.heap.size (.slice oa (p + 1) oc) (es ++ [(⟨kd, s, nm, []⟩, .slice none 0 0)])) := zH ((E1.out.alloc (.cells #[.int .i64 (kd : Int), .string (txt s), .int .i64 nm, .slice none 0 0] 116)).push rfl (by have := O2.out.1; exact this) (by have := O2.out.2.1; exact this))
  obtain ⟨X1, hX1⟩ : ∃ z, (X.alloc (.cells #[.int .i64 (kd : Int), .string (txt s), .int .i64 nm, .slice ka m kc] 116)) = z := ⟨_, rfl⟩
  rw [hX1] at K2 BK B1 E1 K1
  have X1s : Hid (X1.heap.size = X.heap.size + 1) := zH (by rw [← hX1, World.size_alloc])
  obtain ⟨nb, hnb⟩ : ∃ z, X.heap.size = z := ⟨_, rfl⟩
  have HW0 : Hid (W0.heap.size ≤ nb) := zH (by rw [← hnb]; exact HX.out.size)
  have Hnb := zH hnb
  rw [hnb] at n3 FR BK X1s ⊢
  clear c0 c1 c2 c3 hX1 hnb n3
  clear O2
  go_loopw [2, 10, 11, 12] (fun v d i _ wr => ∃ (j : Nat) (a' : Option Addr) (n' c' : Nat) (kv : Value) (es2 : List (EN × Value)), j ≤ m ∧ i = .int .i64 (j : Int) ∧ v = .slice a' n' c' ∧ d = .int .i64 (deepL (ks.take j) : Int) ∧ Hid (n' = p + 1 + sizeL (ks.take j)) ∧ Hid (EL wr W0.heap.size (.slice a' n' c') (es ++ (⟨kd, s, nm, placesL (ks.take j) (p + 1)⟩, kv) :: es2)) ∧ Hid (es2.map (·.1) = flatL (ks.take j) (p + 1)) ∧ Hid (Below W0.heap.size X wr) ∧ Hid (Keeps X1 (.slice a p c) es wr (.slice a' n' c') (es ++ (⟨kd, s, nm, placesL (ks.take j) (p + 1)⟩, kv) :: es2))) (fun _ _ i _ _ => m - (intOf i).toNat)
  case atStart => exact ⟨0, oa, p + 1, oc, .slice none 0 0, [], Nat.zero_le _, rfl, rfl, rfl, zH (by simp [sizeL]), E2, zH (by simp [flatL]), HB2, K2⟩
  case round =>
    obtain ⟨j, a', n', c', kv, es2, hj, rfl, rfl, rfl, HN, HEL, HES, HB, HKP⟩ := hrel
    clear E2 HB2 K2
    have hnbb := (HKP.out.2 nb (by rw [X1s.out]; omega) FR.out)
    have nlt : nb < wr.heap.size := by have := HKP.out.1; have := X1s.out; omega
    have n3 : wr.cell? ⟨nb, 3, none⟩ = some (.slice ka m kc) := (World.cell?_of_block hnbb.1).trans (BK.out.cell rfl)
    have HNB := zH hnbb
    have NLT := zH nlt
    clear hnbb nlt
    by_cases hlt : j < m
    · obtain ⟨gk, hgk⟩ := get_some Hm.out hlt
      obtain ⟨tk, htk⟩ := get_some Hmk.out hlt
      have hLp := get_mid es es2 (⟨kd, s, nm, placesL (ks.take j) (p + 1)⟩, kv) p Hp.out
      obtain ⟨gm, rfl, hgm, hgml, hfz, hat⟩ := HEL.out.main.at00 (by simp; omega) (by omega)
      obtain ⟨x0, hx0, ⟨rfl, ak, nk, ck, hkv⟩, hc0⟩ := hat p _ hLp
      simp only at hkv
      subst hkv
      have u3 : wr.cell? ⟨gm, p * 4 + 3, none⟩ = some (.slice ak nk ck) := hc0 3 _ rfl
      have hnk : nk = (placesL (ks.take j) (p + 1)).length := by
        obtain ⟨a9, c9, h9⟩ := (HEL.out.kids p _ hLp).form
        injection h9
      have hszj := sizeL_take_le ks j
      have hpl : (placesL (ks.take j) (p + 1)).length ≤ 5000 := by rw [placesL_len]; have := len_le_size (ks.take j); omega
      have hn5 : n' ≤ 5000 := by have := HN.out; omega
      have hpn : (p : Int) < (n' : Int) := by have := HN.out; omega
      have hpn2 : p < n' := by have := HN.out; omega
      have p0 : (0 : Int) ≤ (p : Int) := Int.natCast_nonneg _
      have j0 : (0 : Int) ≤ (j : Int) := Int.natCast_nonneg _
      have jm : (j : Int) < (m : Int) := by omega
      have djm : decide ((j : Int) < (m : Int)) = true := by simp; omega
      have djm2 : decide (j < m) = true := by simp; omega
      have hng : ¬ nb = gm := fun e => HNB.out.2.1 (by rw [e]; rfl)
      have hng2 : ¬ gm = nb := fun e => hng e.symm
      obtain ⟨b1, off1, x1, rfl, hb1, hx1, rfl, hc1⟩ := HROW.out.at_ hgk
      have k0 := hc1 0 _ rfl
      simp only [Nat.add_zero, Nat.mul_one] at k0
      have K0 : Hid (W0.cell? ⟨b1, off1 + j, none⟩ = some (.int .i64 (gk : Int))) := zH k0
      have hbg : ¬ b1 = gm := by omega
      have hbg2 : ¬ gm = b1 := by omega
      have HB1 := zH hb1
      have HLp := zH hLp
      have Hnk := zH hnk
      have Hpl := zH hpl
      have Htk := zH htk
      have Hgk := zH hgk
      have Hfz := zH hfz
      have Hgml := zH hgml
      have Hgm := zH hgm
      clear hx0 hc0 hat hx1 hc1 hLp hnk hpl htk hgk hfz k0 hgm hb1
      go_wp2_with (first
        | (at_builtin; refine wpList_append_list2 rfl (.tmp 42) (.tmp 45) _ rfl W0.heap.size (wr.heap.size + 1) 3 jI _ 1 8 Tryd.underlying114 II.out.1 II.out.2.1 II.out.2.2.1 II.out.2.2.2 rfl (by omega) (R := IsNat) (l := placesL (ks.take j) (p + 1)) (m := [n']) (.slice ak nk ck) ?_ (by exact (HEL.out.kids p _ HLp.out).alloc (.cells #[.int .i64 (n' : Int)] 3)) (some ⟨wr.heap.size, 0, none⟩) 1 1 ?_ (by exact SlR.new1 (x := [.int .i64 (n' : Int)]) rfl rfl rfl) (nk + 1) (by rw [Hnk.out]) IsNat.one (by have := Hpl.out; unfold maxLen; omega) (by have := Hpl.out; omega) (by have := HX.out.size; have := HB.out.size; rw [World.size_alloc]; omega) ?_; rfl; rfl; intro ak2 ck2 w3 hown hgr hat3; have O3 := zH (And.intro hown (And.intro hgr hat3)); have m3 := ((HEL.out.alloc (.cells #[.int .i64 (n' : Int)] 3)).main.kept1 ((HEL.out.alloc (.cells #[.int .i64 (n' : Int)] 3)).kids p _ HLp.out) (by decide) hgr); obtain ⟨gm2, e2, _, _, hfz3, hat4⟩ := m3.at00 (by simp; omega) (by omega); injection e2 with e2; injection e2 with e2; subst e2; obtain ⟨x5, hx5, ⟨rfl, _⟩, hc5⟩ := hat4 p _ HLp.out; have u5 : w3.cell? ⟨gm, p * 4 + 3, none⟩ = some (.slice ak nk ck) := hc5 3 _ rfl; have z5 := hfz3 (p * 4 + 3)
           have B3' := (HB.out.alloc (Nat.le_trans HX.out.size HB.out.size) (.cells #[.int .i64 (n' : Int)] 3)).grown hgr (by have := HX.out.size; have := HB.out.size; rw [World.size_alloc]; omega) (fun g' hg' => ((HEL.out.kids p _ HLp.out).block g' hg').1)
           have k3 : w3.cell? ⟨b1, off1 + j, none⟩ = some (.int .i64 (gk : Int)) := (World.cell?_of_block ((HX.out.trans B3').block b1 HB1.out)).trans K0.out
           have n33 : w3.cell? ⟨nb, 3, none⟩ = some (.slice (some ⟨b1, off1, none⟩) m kc) := (World.cell?_of_block (kid_stays HLp.out (.cells #[.int .i64 (n' : Int)] 3) hgr NLT.out HNB.out.2)).trans n3
           clear hown hgr hat3 hfz3 hat4 hx5 hc5 B3' m3))
      have E3 := HEL.out.kid HLp.out ⟨_, _, _, rfl⟩ (.cells #[.int .i64 (n' : Int)] 3) O3.out.1 O3.out.2.1 (by have := O3.out.2.2; rw [World.size_alloc] at this; exact this)
      rw [set_mid es es2 _ _ p Hp.out] at E3
      have KK := Keeps.kid (n := n') (c := c') (g := gm) (e' := ⟨kd, s, nm, placesL (ks.take j) (p + 1) ++ [n']⟩) HLp.out (.cells #[.int .i64 (n' : Int)] 3) O3.out.2.1 (by have := O3.out.2.2; rw [World.size_alloc] at this; exact this)
      rw [set_mid es es2 _ _ p Hp.out] at KK
      have HK3 := zH (HKP.out.trans KK)
      have B3 : Below W0.heap.size X (w3.setCell ⟨gm, p * 4 + 3, none⟩ (.slice ak2 (nk + 1) ck2)) := (((HB.out.alloc (Nat.le_trans HX.out.size HB.out.size) (.cells #[.int .i64 (n' : Int)] 3)).grown O3.out.2.1 (by have := HX.out.size; have := HB.out.size; rw [World.size_alloc]; omega) (fun g' hg' => ((HEL.out.kids p _ HLp.out).block g' hg').1))).setCell (p := ⟨gm, p * 4 + 3, none⟩) ((HEL.out.main.block gm rfl).1) _
      have hes2 : es2.length = sizeL (ks.take j) := by have := congrArg List.length HES.out; rw [List.length_map, trFlatL_len] at this; exact this
      have htk1 := take_snoc1 Htk.out
      have hszt := sizeL_take_le ks (j + 1)
      rw [htk1, sizeL_app] at hszt
      simp only [sizeL] at hszt
      have HE3 := zH E3
      have HB3 := zH B3
      have HT1 := zH htk1
      have Hes2 := zH hes2
      have CC := HIH.out tk gk _ (.slice (some ⟨gm, 0, none⟩) n' c') _ (Nat.le_trans (size_mem (List.mem_iff_getElem?.2 ⟨j, Htk.out⟩)) hszk) (Reps.get HTR.out Htk.out Hgk.out) (HX.out.trans B3) E3 (by rw [List.length_append, Hp.out, List.length_cons, hes2]; omega)
      have HCC := zH CC
      clear E3 B3 htk1 hes2 CC KK
      refine HCC.out.mono ?_
      rintro e w4 ⟨v4, es4, rfl, hE4, hm4, hB4, hK4⟩
      obtain ⟨a4, c4, rfl⟩ := hE4.main.form
      have HE4 := zH hE4
      have HM4 := zH hm4
      have HB4 := zH (HB3.out.trans hB4)
      have HK4 := zH (HK3.out.trans hK4)
      obtain ⟨n4, hn4⟩ : ∃ z, (es ++ (⟨kd, s, nm, placesL (ks.take j) (p + 1) ++ [n']⟩, Value.slice ak2 (nk + 1) ck2) :: es2 ++ es4).length = z := ⟨_, rfl⟩
      rw [hn4]
      have HN4 := zH hn4
      clear hE4 hm4 hB4 hK4 HCC hn4 u3 u5 z5 n3 k3 n33
      go_wp2_with fail
      go_roundw
      case rel =>
        have hn1 : n' = p + 1 + sizeL (ks.take j) := HN.out
        have hpl1 : placesL (ks.take (j + 1)) (p + 1) = placesL (ks.take j) (p + 1) ++ [n'] := by rw [HT1.out, placesL_app, hn1]; rfl
        have hlen4 : es4.length = tk.size := by have := congrArg List.length HM4.out; rw [List.length_map, trFlat_len] at this; exact this
        refine ⟨j + 1, a4, n4, c4, .slice ak2 (nk + 1) ck2, es2 ++ es4, by omega, by go_num, rfl, ?_, zH ?_, zH ?_, zH ?_, HB4, zH ?_⟩
        · rw [HT1.out, deepL_app]
          simp only [deepL]
          congr 1
          split <;> omega
        · rw [← HN4.out, HT1.out, sizeL_app]
          simp only [List.length_append, List.length_cons, sizeL, Hp.out, Hes2.out, hlen4]
          omega
        · rw [hpl1]
          have := HE4.out
          rw [HN4.out] at this
          rw [List.append_assoc, List.cons_append] at this
          exact this
        · rw [List.map_append, HES.out, HM4.out, HT1.out, flatL_app]
          simp only [List.length_append, List.length_cons, Hp.out, Hes2.out, flatL, List.append_nil]
          congr 2
          omega
        · rw [hpl1]
          have := HK4.out
          rw [HN4.out] at this
          rw [List.append_assoc, List.cons_append] at this
          exact this
      case measure => simp [intOf]; omega
    · have hjm : j = m := by omega
      subst hjm
      clear hlt
      have djm : decide ((j : Int) < (j : Int)) = false := by simp
      have djm2 : decide (j < j) = false := by simp
      have hdd : deepL (ks.take j) ≤ 5000 := by have := deepL_le (ks.take j); have := sizeL_take_le ks j; omega
      have hd63 : (deepL (ks.take j) : Int) ≤ 5000 := by omega
      have hd0 : (0 : Int) ≤ (deepL (ks.take j) : Int) := Int.natCast_nonneg _
      have htk : ks.take j = ks := List.take_of_length_le (by rw [Hmk.out]; exact Nat.le_refl _)
      have HTK := zH htk
      clear htk hdd
      go_wp2_with fail
      go_ret2
      refine ⟨.slice a' n' c', (⟨kd, s, nm, placesL (ks.take j) (p + 1)⟩, kv) :: es2, ?_, HEL.out, ?_, HB.out, K1.out.trans HKP.out⟩
      · show Ending.returned (.tuple #[.slice a' n' c', .int .i64 ((deepL (ks.take j) : Int) + 1)]) = _
        rw [HTK.out]
        rfl
      · rw [List.map_cons, HES.out, HTK.out, Hp.out]
        rfl
end Go.Proofs.YtpkggobhhieeoaaDoor
