/- Chapter 09, outright: the law KindsPlaces, walked. -/
import Derived.Test.YtidkbodmiegbkaaGreatDoorKzS
import Derived.Test.YtidkbodmiegbkaaGreatDoorKzR
import Derived.Deep.CutRange
import Derived.Deep.CutBlock
namespace Go.Proofs.YtidkbodmiegbkaaGreatDoor
set_option linter.unusedSimpArgs false
set_option linter.unusedVariables false
open Go.RowKit

theorem of_any {l : List ND} (hok : ∀ d ∈ l, NdOk d) : ∃ x z er : Int, (∀ (W W0 : World) (v : Value), SlR W0 W0.heap.size 4 (ND.Is W0 W0.heap.size) v l → AllV W0 → Below W0.heap.size W0 W → Calls Tryz.prog 8 #[.agg #[v]] W fun e w' => e = .returned (.tuple #[.int .i64 x, .int .i64 z, .int .i64 er]) ∧ Below W.heap.size W w') ∧
    (er = 0 → ∃ v : Tr, v.Good ∧ v.deep ≤ 32 ∧ v.size ≤ 256 ∧ l = ndsT v 0 ∧ wR 32 v [] 0 < 0 ∧ x = kR 32 v []) := by
  by_cases hr : rightE l = 0
  · obtain ⟨t, tg, td, ts, hl, _⟩ := right_tree hok hr
    subst hl
    refine ⟨kindT t, atN t, errN (ndsT t 0) t, fun W W0 v hs hv hw => of_t ⟨hs, hv, hw, tg, td, ts⟩, fun he => ?_⟩
    by_cases hwr : wR 32 t [] 0 < 0
    · exact ⟨t, tg, td, ts, rfl, hwr, by unfold kindT; rw [if_pos hwr]⟩
    · have := err_ne (l := ndsT t 0) hwr
      rw [he] at this
      simp at this
  · exact ⟨0, 0, rightE l, fun W W0 v hs hv hw => of_bad W W0 hs hok hv.marks hv.pow hv.takes hw hr, fun he => absurd (by omega) hr⟩
theorem each_any {l : List ND} (hok : ∀ d ∈ l, NdOk d) : ∃ (K : List Int) (z er : Int), (∀ (W W0 : World) (v : Value), SlR W0 W0.heap.size 4 (ND.Is W0 W0.heap.size) v l → AllV W0 → Below W0.heap.size W0 W → Calls Tryz.prog 12 #[.agg #[v]] W fun e w' => ∃ sv, e = .returned (.tuple #[sv, .int .i64 z, .int .i64 er]) ∧ Own1 w' W.heap.size 3 1 IsI sv K ∧ Below W.heap.size W w') ∧
    (er = 0 → ∃ v : Tr, v.Good ∧ v.deep ≤ 32 ∧ v.size ≤ 256 ∧ l = ndsT v 0 ∧ wR 32 v [] 0 < 0 ∧ K = ksR 32 v []) := by
  by_cases hr : rightE l = 0
  · obtain ⟨t, tg, td, ts, hl, _⟩ := right_tree hok hr
    subst hl
    refine ⟨kindsT t, atN t, errN (ndsT t 0) t, fun W W0 v hs hv hw => each_t ⟨hs, hv, hw, tg, td, ts⟩, fun he => ?_⟩
    by_cases hwr : wR 32 t [] 0 < 0
    · exact ⟨t, tg, td, ts, rfl, hwr, by unfold kindsT; rw [if_pos hwr]⟩
    · have := err_ne (l := ndsT t 0) hwr
      rw [he] at this
      simp at this
  · exact ⟨[], 0, rightE l, fun W W0 v hs hv hw => (each_bad W W0 hs hok hv.marks hv.pow hv.takes hw hr).mono fun e w' h => ⟨.slice none 0 0, h.1, ⟨[], World.ownsRow_nil _ _ _ _, FlatR.nil_⟩, h.2⟩, fun he => absurd (by omega) hr⟩
theorem tmod_in (a : Int) {n : Nat} (h : 0 < n) : -(n : Int) < a.tmod n ∧ a.tmod n < n := by
  constructor
  · have := Int.lt_tmod_of_pos a (b := (n : Int)) (by omega)
    omega
  · exact Int.tmod_lt_of_pos a (by omega)
/-- what is known of the whole with the other part -/
theorem places_plain {t v u : Tr} {i : Nat} (hg : t.Good) (hgv : v.Good) (hd : t.deep ≤ 32) (hdv : v.deep ≤ 32) (hw : wR 32 t [] 0 < 0) (hwv : wR 32 v [] 0 < 0) (hu : subT t i = some u) (hi : i < t.size) (hsh : frR 32 u [] [] = []) (hdg : (repT t i v).deep ≤ 32) :
    (ksR 32 t [])[i]? = some (kR 32 u []) ∧ (ksR 32 t [])[0]? = some (kR 32 t []) ∧
    (kR 32 v [] = kR 32 u [] → kindT (repT t i v) = kR 32 t [] ∧ atN (repT t i v) = 0 ∧ errN (ndsT (repT t i v) 0) (repT t i v) = 0) ∧
    (kR 32 v [] ≠ kR 32 u [] → (i = 0 → kindT (repT t i v) = kR 32 v [] ∧ atN (repT t i v) = 0 ∧ errN (ndsT (repT t i v) 0) (repT t i v) = 0) ∧
      (0 < i → kindT (repT t i v) = 0 ∧ atN (repT t i v) = (parT t i : Int) ∧ errN (ndsT (repT t i v) 0) (repT t i v) = 90)) := by
  obtain ⟨u', e1, e2, e3, e4, _, _⟩ := sub_some t i hi
  rw [hu] at e1
  injection e1 with e1
  subst e1
  obtain ⟨hwu, hku⟩ := part_shut hd hw hu hsh
  have hdu : u.deep ≤ 32 := by omega
  have FU := fixed_of hdu hwu hsh
  have FV := fixed_of hdv hwv (wR_free [] hdv hwv)
  have k0 : ∀ t : Tr, (ksR 32 t [])[0]? = some (kR 32 t []) := fun t => by obtain ⟨k, s, n, ks⟩ := t; rw [ksR_succ]; rfl
  have hpos : 0 < u.size := by obtain ⟨k, s, n, ks⟩ := u; simp only [Tr.size]; omega
  refine ⟨by have := hku 0 hpos; rw [Nat.add_zero] at this; rw [this, k0], k0 t, fun he => ?_, fun hne => ⟨fun h0 => ?_, fun h0 => ?_⟩⟩
  · rw [he] at FV
    obtain ⟨h1, h2⟩ := rep_same FV hd hdg hw hu FU
    have h3 := h2 0
    exact ⟨by unfold kindT; rw [if_pos h3, h1], by unfold atN; rw [if_pos h3], by unfold errN; rw [if_pos h3]⟩
  · subst h0
    have hr : repT t 0 v = v := by cases t; rfl
    rw [hr]
    exact ⟨by unfold kindT; rw [if_pos hwv], by unfold atN; rw [if_pos hwv], by unfold errN; rw [if_pos hwv]⟩
  · have h1 := rep_diff FV hne hg hd hdg hw hu FU h0 0
    rw [Nat.zero_add] at h1
    have hp := par_is hg hu h0
    have hrep := nds_rep t i u v 0 hu
    refine ⟨by unfold kindT; rw [if_neg (by omega)], by unfold atN; rw [if_neg (by omega), h1], ?_⟩
    unfold errN
    rw [if_neg (by omega), h1, Int.toNat_natCast, if_neg]
    rw [← hrep, List.append_assoc, List.getElem?_append_left (by rw [List.length_map, List.length_take, nds_len]; have := hp.lt; omega), List.getElem?_map, List.getElem?_take_of_lt hp.lt]
    obtain ⟨d, j, h2, _⟩ := hp.has
    rw [h2]
    simp only [Option.map_some]
    exact hp.kind d h2

set_option maxRecDepth 100000 in
set_option maxHeartbeats 32000000 in
theorem lawPlaces {l m : List ND} {ve vf : Value} (w : World) (hs : SlR w w.heap.size 4 (ND.Is w w.heap.size) ve l) (hf : SlR w w.heap.size 4 (ND.Is w w.heap.size) vf m) (hokl : ∀ d ∈ l, NdOk d) (hokm : ∀ d ∈ m, NdOk d) (hv : AllV w) (at_ : Int) (hat : -9223372036854775808 ≤ at_ ∧ at_ ≤ 9223372036854775807) :
    Calls Tryz.prog 6 #[.agg #[ve], .agg #[vf], .int .i64 at_] w fun e w' => e = .returned (.bool true) ∧ Below w.heap.size w w' := by
  obtain ⟨a, c, rfl⟩ : ∃ a c, ve = .slice a l.length c := by obtain ⟨a, c, h, _⟩ := hs.form; exact ⟨a, c, h⟩
  obtain ⟨fa, fc, rfl⟩ : ∃ a c, vf = .slice a m.length c := by obtain ⟨a, c, h, _⟩ := hf.form; exact ⟨a, c, h⟩
  obtain ⟨K, z1, er1, EC0, hE1⟩ := each_any hokl
  obtain ⟨kf, z2, er2, OC0, hE2⟩ := of_any hokm
  have EC := Lib.hid (fun W (hW : Below w.heap.size w W) => EC0 W w _ hs hv hW)
  have OC := Lib.hid (fun W (hW : Below w.heap.size w W) => OC0 W w _ hf hv hW)
  obtain ⟨n, hn⟩ : ∃ n, l.length = n := ⟨_, rfl⟩
  obtain ⟨nf, hnf⟩ : ∃ n, m.length = n := ⟨_, rfl⟩
  obtain ⟨kl, hkl⟩ : ∃ n, K.length = n := ⟨_, rfl⟩
  have HKL := Lib.hid hkl
  rw [hn] at hs EC ⊢
  rw [hnf] at hf OC ⊢
  have HN := Lib.hid (And.intro hn hnf)
  have hb0 : Below w.heap.size w ((w.alloc (.cells #[.slice a n c] 24)).alloc (.cells #[.slice fa nf fc] 24)) := ((Below.refl _ _).alloc (Nat.le_refl _) _).alloc (by simp) _
  have AWK := Lib.hid (awake_any ((w.alloc (.cells #[.slice a n c] 24)).alloc (.cells #[.slice fa nf fc] 24)) (hv.below hb0))
  have KA0 : Hid (Blk ((w.alloc (.cells #[.slice a n c] 24)).alloc (.cells #[.slice fa nf fc] 24)) w.heap.size 24 #[.slice a n c]) := Lib.hid ((Blk.new _ _ _).alloc _)
  have KB0 : Hid (Blk ((w.alloc (.cells #[.slice a n c] 24)).alloc (.cells #[.slice fa nf fc] 24)) (w.heap.size + 1) 24 #[.slice fa nf fc]) := Lib.hid (Blk.new_ (by simp) _ _)
  have B0 := Lib.hid hb0
  have HS := Lib.hid hs
  have HF := Lib.hid hf
  have HV := Lib.hid hv
  have HE1 := Lib.hid hE1
  have HE2 := Lib.hid hE2
  have HA := Lib.hid hat
  clear hs hf hv hn hnf hkl hb0 EC0 OC0 hE1 hE2 hokl hokm hat
  by_cases h1 : er1 = 0
  · by_cases h2 : er2 = 0
    · obtain ⟨t, tg, td, ts, hlt, tw, hK⟩ := HE1.out h1
      obtain ⟨v, vg, vd, vs, hmv, vw, hkf⟩ := HE2.out h2
      subst h1 h2 hlt hmv hK hkf
      have hkl := HKL.out
      have hnn := HN.out
      rw [ksR_len 32 t [] td] at hkl
      rw [nds_len] at hnn
      have hnk : n = kl := by omega
      subst hnk
      have HT := Lib.hid (And.intro tg (And.intro td (And.intro ts (And.intro tw hkl))))
      have HVV := Lib.hid (And.intro vg (And.intro vd (And.intro vs vw)))
      have hpos : 0 < n := by rw [← hkl]; obtain ⟨k, s, n, ks⟩ := t; simp only [Tr.size]; omega
      have HPOS := Lib.hid hpos
      obtain ⟨kf, hkf⟩ : ∃ z, kR 32 v [] = z := ⟨_, rfl⟩
      have HKF := Lib.hid hkf
      rw [hkf] at OC
      have PLAIN := Lib.hid (fun i u (hu : subT t i = some u) (hi : i < t.size) hsh hdg => places_plain tg vg td vd tw vw hu hi hsh hdg)
      clear tg td ts tw vg vd vs vw hkl hnn hpos hkf HE1 HE2
      go_enter Tryz.func6, Tryz.ntmps6
      go_upto_region 1 with fail
      generalize hW0 : ((w.alloc (.cells #[.slice a n c] 24)).alloc (.cells #[.slice fa nf fc] 24)) = W0 at *
      clear hW0
      obtain ⟨qe, hqe⟩ : ∃ z, w.heap.size = z := ⟨_, rfl⟩
      have HQE := Lib.hid hqe
      rw [hqe] at KA0 KB0 ⊢
      clear hqe
      go_upto_region 7 with (first
        | (go_at_call 7; go_must (refine (AWK.out).mono ?_); rintro e w1 ⟨rfl, b1⟩
           have B1 := Lib.hid (B0.out.trans (b1.mono B0.out.size))
           go_must (have KA1 := Lib.hid (KA0.out.below b1 KA0.out.lt))
           go_must (have KB1 := Lib.hid (KB0.out.below b1 KB0.out.lt))
           have ea1 : w1.cell? ⟨qe, 0, none⟩ = some (.slice a n c) := KA1.out.cell (i := 0) rfl
           have ef1 : w1.cell? ⟨qe + 1, 0, none⟩ = some (.slice fa nf fc) := KB1.out.cell (i := 0) rfl
           have la1 : qe < w1.heap.size := KA1.out.lt
           have lf1 : qe + 1 < w1.heap.size := KB1.out.lt
           clear b1)
        | (go_at_call 12; go_must (refine (EC.out w1 B1.out).mono ?_); rintro e w2 ⟨sv, rfl, ho, b2⟩
           obtain ⟨sa, sc, rfl⟩ := ho.form
           rw [HKL.out] at ho ⊢
           have OL := Lib.hid (ho.read (by decide))
           have B2 := Lib.hid (B1.out.trans (b2.mono B1.out.size))
           clear ea1 ef1 la1 lf1
           go_must (have KA2 := Lib.hid (KA1.out.below b2 KA1.out.lt))
           go_must (have KB2 := Lib.hid (KB1.out.below b2 KB1.out.lt))
           have ea2 : w2.cell? ⟨qe, 0, none⟩ = some (.slice a n c) := KA2.out.cell (i := 0) rfl
           have ef2 : w2.cell? ⟨qe + 1, 0, none⟩ = some (.slice fa nf fc) := KB2.out.cell (i := 0) rfl
           have la2 : qe < w2.heap.size := KA2.out.lt
           have lf2 : qe + 1 < w2.heap.size := KB2.out.lt
           clear b2 ho)
        | (go_at_call 8; go_must (refine (OC.out w2 B2.out).mono ?_); rintro e w3 ⟨rfl, b3⟩
           have B3 := Lib.hid (B2.out.trans (b3.mono B2.out.size))
           have S3 := Lib.hid b3.size
           have OL3 := Lib.hid (OL.out.below b3)
           clear ea2 ef2 la2 lf2
           go_must (have KA3 := Lib.hid (KA2.out.below b3 KA2.out.lt))
           go_must (have KB3 := Lib.hid (KB2.out.below b3 KB2.out.lt))
           have ea3 : w3.cell? ⟨qe, 0, none⟩ = some (.slice a n c) := KA3.out.cell (i := 0) rfl
           have ef3 : w3.cell? ⟨qe + 1, 0, none⟩ = some (.slice fa nf fc) := KB3.out.cell (i := 0) rfl
           have la3 : qe < w3.heap.size := KA3.out.lt
           have lf3 : qe + 1 < w3.heap.size := KB3.out.lt
           clear b3)
        | fail)
      have n0 : ((n : Int) == 0) = false := by have := HPOS.out; simp; omega
      have n1 : ((n : Int) != 0) = true := by have := HPOS.out; simp; omega
      obtain ⟨r1, r2⟩ := tmod_in at_ HPOS.out
      have r3 : -9223372036854775808 ≤ at_.tmod (n : Int) := by have := HT.out.2.2.1; have := HT.out.2.2.2.2; omega
      have r4 : at_.tmod (n : Int) ≤ 9223372036854775807 := by have := HT.out.2.2.1; have := HT.out.2.2.2.2; omega
      have wr1 : IntKind.i64.wrap (at_.tmod (n : Int)) = at_.tmod (n : Int) := by rw [IntKind.wrap_i64]; omega
      have wr2 : IntKind.i64.wrap (-(at_.tmod (n : Int))) = -(at_.tmod (n : Int)) := by rw [IntKind.wrap_i64]; have := HT.out.2.2.1; have := HT.out.2.2.2.2; omega
      obtain ⟨r, hr⟩ : ∃ r, at_.tmod (n : Int) = r := ⟨_, rfl⟩
      rw [hr] at r1 r2 r3 r4 wr1 wr2
      by_cases hneg : r < 0
      · have dn : decide (r < 0) = true := decide_eq_true hneg
        obtain ⟨i, hi⟩ : ∃ i : Nat, -r = (i : Int) := ⟨(-r).toNat, by omega⟩
        have hin : i < n := by omega
        rw [hi] at wr2
        clear hneg
        have hit : i < t.size := by rw [HT.out.2.2.2.2]; exact hin
        obtain ⟨u, hu, hus, hud, hug, _, _⟩ := sub_some t i hit
        have hgu := hug HT.out.1
        have PC := Lib.hid (part_yes i HT.out.1 HT.out.2.2.1 HT.out.2.1 hit hu w3 w HS.out (nds_ok HT.out.1 0) HV.out.marks HV.out.pow B3.out)
        have PL := Lib.hid (fun W (hW : Below w.heap.size w W) => placed_any W w HS.out HF.out HT.out.1 HVV.out.1 HT.out.2.1 HT.out.2.2.1 HVV.out.2.2.1 hu hit hW)
        have hufl : (u.flat 0).length = u.size := trFlat_len u 0
        obtain ⟨un, hun⟩ : ∃ z, u.size = z := ⟨_, rfl⟩
        rw [hun] at hufl
        have HUF := Lib.hid hufl
        have HU := Lib.hid (And.intro hgu (And.intro (Nat.le_trans hud HT.out.2.1) (And.intro (show u.size ≤ 256 by have := HT.out.2.2.1; omega) (And.intro hu hit))))
        have i0 : (0 : Int) ≤ (i : Int) := Int.natCast_nonneg _
        have i1 : (i : Int) < (n : Int) := by omega
        have i64 : (i : Int) ≤ 256 := by have := HT.out.2.2.1; have := HT.out.2.2.2.2; omega
        clear hit hu hus hud hug hgu hufl hun hin
        go_upto_region 11 with (first
          | (go_at_call 14; go_must (refine PC.out.mono ?_); rintro e w4 ⟨pv, rfl, hp, b4⟩
             obtain ⟨pa, pc, hpv, _⟩ := hp.form
             subst hpv
             rw [HUF.out] at hp ⊢
             have SP := Lib.hid (hp.map_ EN.nd (fun x y h => ENode.nd h))
             go_must (have D4 := Lib.hid b4)
             clear ea3 ef3 la3 lf3
             go_must (have KA4 := Lib.hid (KA3.out.below b4 KA3.out.lt))
             go_must (have KB4 := Lib.hid (KB3.out.below b4 KB3.out.lt))
             have ea4 : w4.cell? ⟨qe, 0, none⟩ = some (.slice a n c) := KA4.out.cell (i := 0) rfl
             have ef4 : w4.cell? ⟨qe + 1, 0, none⟩ = some (.slice fa nf fc) := KB4.out.cell (i := 0) rfl
             have la4 : qe < w4.heap.size := KA4.out.lt
             have lf4 : qe + 1 < w4.heap.size := KB4.out.lt
             clear hp b4)
          | fail)
        have KP : Hid (Blk (w4.alloc (.cells #[.slice pa un pc] 24)) w4.heap.size 24 #[.slice pa un pc]) := Lib.hid (Blk.new _ _ _)
        have A4 : Hid (Below w4.heap.size w4 (w4.alloc (.cells #[.slice pa un pc] 24))) := Lib.hid ((Below.refl _ _).alloc (Nat.le_refl _) _)
        have KA5 : Hid (Blk (w4.alloc (.cells #[.slice pa un pc] 24)) qe 24 #[.slice a n c]) := Lib.hid (KA4.out.alloc _)
        have KB5 : Hid (Blk (w4.alloc (.cells #[.slice pa un pc] 24)) (qe + 1) 24 #[.slice fa nf fc]) := Lib.hid (KB4.out.alloc _)
        obtain ⟨pb, hpb⟩ : ∃ z, w4.heap.size = z := ⟨_, rfl⟩
        rw [hpb] at KP ⊢
        clear hpb ea4 ef4 la4 lf4
        generalize hW5 : w4.alloc (.cells #[.slice pa un pc] 24) = W5 at *
        clear hW5
        have D5 : Hid (Below w3.heap.size w3 W5) := Lib.hid (D4.out.trans (A4.out.mono D4.out.size))
        have k5 : W5.cell? ⟨pb, 0, none⟩ = some (.slice pa un pc) := KP.out.cell rfl
        have l5 : pb < W5.heap.size := KP.out.lt
        have CL := Lib.hid (closed_t (⟨SP.out, HV.out.below (B3.out.trans (D4.out.mono B3.out.size)), A4.out, HU.out.1, HU.out.2.1, HU.out.2.2.1⟩ : ExIs W5 w4 (.slice pa un pc) u))
        by_cases hsh : frR 32 u [] [] = []
        · rw [show decide (frR 32 u [] [] = []) = true by rw [hsh]; rfl] at CL
          have HSH := Lib.hid hsh
          clear hsh
          go_upto_region 16 with (first
            | (go_at_call 9; go_must (refine CL.out.mono ?_); rintro e w6 ⟨rfl, b6⟩
               go_must (have D6 := Lib.hid (D5.out.trans (b6.mono D5.out.size)))
               have B6 := Lib.hid (B3.out.trans (D6.out.mono B3.out.size))
               go_must (have KA6 := Lib.hid (KA5.out.below b6 KA5.out.lt))
               go_must (have KB6 := Lib.hid (KB5.out.below b6 KB5.out.lt))
               have ea6 : w6.cell? ⟨qe, 0, none⟩ = some (.slice a n c) := KA6.out.cell (i := 0) rfl
               have ef6 : w6.cell? ⟨qe + 1, 0, none⟩ = some (.slice fa nf fc) := KB6.out.cell (i := 0) rfl
               have la6 : qe < w6.heap.size := KA6.out.lt
               have lf6 : qe + 1 < w6.heap.size := KB6.out.lt
               clear b6)
            | (go_at_call 16; go_must (refine (PL.out w6 B6.out).mono ?_); rintro e w7 ⟨ga, gn, gc, es, rfl, hnl, hes, b7⟩
               have hrd := hnl.read
               rw [hes] at hrd
               have SG := Lib.hid hrd
               go_must (have D7 := Lib.hid (D6.out.trans (b7.mono D6.out.size)))
               clear ea6 ef6 la6 lf6
               go_must (have KA7 := Lib.hid (KA6.out.below b7 KA6.out.lt))
               go_must (have KB7 := Lib.hid (KB6.out.below b7 KB6.out.lt))
               have ea7 : w7.cell? ⟨qe, 0, none⟩ = some (.slice a n c) := KA7.out.cell (i := 0) rfl
               have ef7 : w7.cell? ⟨qe + 1, 0, none⟩ = some (.slice fa nf fc) := KB7.out.cell (i := 0) rfl
               have la7 : qe < w7.heap.size := KA7.out.lt
               have lf7 : qe + 1 < w7.heap.size := KB7.out.lt
               clear hnl hes hrd b7)
            | fail)
          have KG : Hid (Blk (w7.alloc (.cells #[.slice ga gn gc] 24)) w7.heap.size 24 #[.slice ga gn gc]) := Lib.hid (Blk.new _ _ _)
          have A7 : Hid (Below w7.heap.size w7 (w7.alloc (.cells #[.slice ga gn gc] 24))) := Lib.hid ((Below.refl _ _).alloc (Nat.le_refl _) _)
          have KA8 : Hid (Blk (w7.alloc (.cells #[.slice ga gn gc] 24)) qe 24 #[.slice a n c]) := Lib.hid (KA7.out.alloc _)
          obtain ⟨gb, hgb⟩ : ∃ z, w7.heap.size = z := ⟨_, rfl⟩
          rw [hgb] at KG ⊢
          clear hgb ea7 ef7 la7 lf7
          generalize hW8 : w7.alloc (.cells #[.slice ga gn gc] 24) = W8 at *
          clear hW8
          have D8 : Hid (Below w3.heap.size w3 W8) := Lib.hid (D7.out.trans (A7.out.mono D7.out.size))
          have g8 : W8.cell? ⟨gb, 0, none⟩ = some (.slice ga gn gc) := KG.out.cell rfl
          have l8 : gb < W8.heap.size := KG.out.lt
          have V7 := Lib.hid (HV.out.below (B3.out.trans (D7.out.mono B3.out.size)))
          have hgg := rep_good t i v HT.out.1 HVV.out.1
          have HGG := Lib.hid hgg
          have RX := Lib.hid (right_e W8 w7 SG.out (nds_ok hgg 0) V7.out.marks V7.out.pow A7.out)
          rw [right_tr hgg] at RX
          clear hgg
          by_cases hbig : 256 < (repT t i v).size ∨ 32 < (repT t i v).deep
          · rw [if_pos hbig] at RX
            clear hbig
            go_wp2_with (first
              | (go_at_call 11; go_must (refine RX.out.mono ?_); rintro e w9 ⟨rfl, b9⟩; have B9 := Lib.hid (B3.out.trans ((D8.out.trans (b9.mono D8.out.size)).mono B3.out.size)); clear b9)
              | fail)
            go_ret
            exact ⟨rfl, B9.out⟩
          · rw [if_neg hbig] at RX
            have hdG : (repT t i v).deep ≤ 32 := by omega
            have hsG : (repT t i v).size ≤ 256 := by omega
            have OX := Lib.hid (fun W (hW : Below w7.heap.size w7 W) => of_t (W := W) ⟨SG.out, V7.out, hW, HGG.out, hdG, hsG⟩)
            obtain ⟨p1, p2, p3, p4⟩ := PLAIN.out i u HU.out.2.2.2.1 HU.out.2.2.2.2 HSH.out hdG
            rw [HKF.out] at p3 p4
            obtain ⟨ku, hku⟩ : ∃ z, kR 32 u [] = z := ⟨_, rfl⟩
            obtain ⟨k0, hk0⟩ : ∃ z, kR 32 t [] = z := ⟨_, rfl⟩
            rw [hku] at p1 p3 p4
            rw [hk0] at p2 p3
            obtain ⟨lb, lo, x1, rfl, hlb, _, rfl, hx1⟩ := OL3.out.at_ p1
            obtain ⟨lb2, lo2, x2, e2, _, _, rfl, hx2⟩ := OL3.out.at_ p2
            injection e2 with e2
            injection e2 with e2 e3
            subst e2 e3
            have hlb := Nat.lt_of_lt_of_le hlb S3.out
            have n0p : (0 : Int) < (n : Int) := by omega
            have Y1 : Hid (∀ W, Below w3.heap.size w3 W → W.cell? ⟨lb, lo + i, none⟩ = some (.int .i64 ku) ∧ W.cell? ⟨lb, lo, none⟩ = some (.int .i64 k0)) := Lib.hid (fun W hW => ⟨by have := (hW.cell (p := ⟨lb, lo + i * 1, none⟩) hlb).trans (hx1 0 _ rfl); simpa using this, by have := (hW.cell (p := ⟨lb, lo + 0 * 1, none⟩) hlb).trans (hx2 0 _ rfl); simpa using this⟩)
            have HLB := Lib.hid hlb
            clear hbig hdG hsG hku hk0 p1 p2 hx1 hx2 hlb
            by_cases hk : kf = ku
            · obtain ⟨c1, c2, c3⟩ := p3 hk
              rw [c1, c2, c3] at OX
              have qk : (kf == ku) = true := by rw [hk]; simp
              clear p3 p4 hk c1 c2 c3
              go_wp2_with (first
                | (go_at_call 11; go_must (refine RX.out.mono ?_); rintro e w9 ⟨rfl, b9⟩
                   go_must (have A9 := Lib.hid (A7.out.trans (b9.mono A7.out.size)))
                   have D9 := Lib.hid (D8.out.trans (b9.mono D8.out.size))
                   go_must (have KA9 := Lib.hid (KA8.out.below b9 KA8.out.lt))
                   have g9 : w9.cell? ⟨gb, 0, none⟩ = some (.slice ga gn gc) := (KG.out.below b9 l8).cell rfl
                   have l9 : gb < w9.heap.size := Nat.lt_of_lt_of_le l8 b9.size
                   clear b9)
                | (go_at_call 8; go_must (refine (OX.out w9 A9.out).mono ?_); rintro e w10 ⟨rfl, b10⟩
                   go_must (have D10 := Lib.hid (D9.out.trans (b10.mono D9.out.size)))
                   have B10 := Lib.hid (B3.out.trans (D10.out.mono B3.out.size))
                   have y1 := (Y1.out w10 D10.out).1
                   have y0 := (Y1.out w10 D10.out).2
                   have lb10 : lb < w10.heap.size := Nat.lt_of_lt_of_le HLB.out D10.out.size
                   have ea10 : w10.cell? ⟨qe, 0, none⟩ = some (.slice a n c) := (KA9.out.below b10 KA9.out.lt).cell (i := 0) rfl
                   have la10 : qe < w10.heap.size := Nat.lt_of_lt_of_le KA9.out.lt b10.size
                   clear b10)
                | fail)
              go_ret
              exact ⟨rfl, B10.out⟩
            · obtain ⟨p5, p6⟩ := p4 hk
              have qk : (kf == ku) = false := by simpa using hk
              rcases Nat.eq_zero_or_pos i with hi0 | hi0
              · obtain ⟨c1, c2, c3⟩ := p5 hi0
                rw [c1, c2, c3] at OX
                have qi : ((i : Int) == 0) = true := by rw [hi0]; rfl
                have qf : (kf == kf) = true := by simp
                clear p3 p4 p5 p6 hk c1 c2 c3 hi0
                go_wp2_with (first
                  | (go_at_call 11; go_must (refine RX.out.mono ?_); rintro e w9 ⟨rfl, b9⟩
                     go_must (have A9 := Lib.hid (A7.out.trans (b9.mono A7.out.size)))
                     have D9 := Lib.hid (D8.out.trans (b9.mono D8.out.size))
                     go_must (have KA9 := Lib.hid (KA8.out.below b9 KA8.out.lt))
                     have g9 : w9.cell? ⟨gb, 0, none⟩ = some (.slice ga gn gc) := (KG.out.below b9 l8).cell rfl
                     have l9 : gb < w9.heap.size := Nat.lt_of_lt_of_le l8 b9.size
                     clear b9)
                  | (go_at_call 8; go_must (refine (OX.out w9 A9.out).mono ?_); rintro e w10 ⟨rfl, b10⟩
                     go_must (have D10 := Lib.hid (D9.out.trans (b10.mono D9.out.size)))
                     have B10 := Lib.hid (B3.out.trans (D10.out.mono B3.out.size))
                     have y1 := (Y1.out w10 D10.out).1
                     have y0 := (Y1.out w10 D10.out).2
                     have lb10 : lb < w10.heap.size := Nat.lt_of_lt_of_le HLB.out D10.out.size
                     have ea10 : w10.cell? ⟨qe, 0, none⟩ = some (.slice a n c) := (KA9.out.below b10 KA9.out.lt).cell (i := 0) rfl
                     have la10 : qe < w10.heap.size := Nat.lt_of_lt_of_le KA9.out.lt b10.size
                     clear b10)
                  | fail)
                go_ret
                exact ⟨rfl, B10.out⟩
              · obtain ⟨c1, c2, c3⟩ := p6 hi0
                rw [c1, c2, c3] at OX
                have qi : ((i : Int) == 0) = false := by simp; omega
                have UPC := Lib.hid (fun W (hW : Below w.heap.size w W) => up_is W w HS.out (by rw [nds_len]; exact HT.out.2.2.1) hW (par_is HT.out.1 HU.out.2.2.2.1 hi0))
                obtain ⟨pp, hpp⟩ : ∃ z, parT t i = z := ⟨_, rfl⟩
                rw [hpp] at UPC OX
                have qp : ((pp : Int) == (pp : Int)) = true := by simp
                clear p3 p4 p5 p6 hk c1 c2 c3 hi0 hpp
                go_wp2_with (first
                  | (go_at_call 11; go_must (refine RX.out.mono ?_); rintro e w9 ⟨rfl, b9⟩
                     go_must (have A9 := Lib.hid (A7.out.trans (b9.mono A7.out.size)))
                     have D9 := Lib.hid (D8.out.trans (b9.mono D8.out.size))
                     go_must (have KA9 := Lib.hid (KA8.out.below b9 KA8.out.lt))
                     have g9 : w9.cell? ⟨gb, 0, none⟩ = some (.slice ga gn gc) := (KG.out.below b9 l8).cell rfl
                     have l9 : gb < w9.heap.size := Nat.lt_of_lt_of_le l8 b9.size
                     clear b9)
                  | (go_at_call 8; go_must (refine (OX.out w9 A9.out).mono ?_); rintro e w10 ⟨rfl, b10⟩
                     go_must (have D10 := Lib.hid (D9.out.trans (b10.mono D9.out.size)))
                     have B10 := Lib.hid (B3.out.trans (D10.out.mono B3.out.size))
                     have y1 := (Y1.out w10 D10.out).1
                     have y0 := (Y1.out w10 D10.out).2
                     have lb10 : lb < w10.heap.size := Nat.lt_of_lt_of_le HLB.out D10.out.size
                     have ea10 : w10.cell? ⟨qe, 0, none⟩ = some (.slice a n c) := (KA9.out.below b10 KA9.out.lt).cell (i := 0) rfl
                     have la10 : qe < w10.heap.size := Nat.lt_of_lt_of_le KA9.out.lt b10.size
                     clear b10)
                  | (go_at_call 17; go_must (refine (UPC.out w10 B10.out).mono ?_); rintro e w11 ⟨rfl, b11⟩; have B11 := Lib.hid (B10.out.trans (b11.mono B10.out.size)); clear b11)
                  | fail)
                go_ret
                exact ⟨rfl, B11.out⟩
        · rw [show decide (frR 32 u [] [] = []) = false by simp [hsh]] at CL
          clear hsh
          go_wp2_with (first
            | (go_at_call 9; go_must (refine CL.out.mono ?_); rintro e w6 ⟨rfl, b6⟩; have B6 := Lib.hid (B3.out.trans ((D5.out.trans (b6.mono D5.out.size)).mono B3.out.size)); clear b6)
            | fail)
          go_ret
          exact ⟨rfl, B6.out⟩
      · have dn : decide (r < 0) = false := decide_eq_false hneg
        obtain ⟨i, rfl⟩ : ∃ i : Nat, r = (i : Int) := ⟨r.toNat, by omega⟩
        have hin : i < n := by omega
        clear hneg wr2
        have hit : i < t.size := by rw [HT.out.2.2.2.2]; exact hin
        obtain ⟨u, hu, hus, hud, hug, _, _⟩ := sub_some t i hit
        have hgu := hug HT.out.1
        have PC := Lib.hid (part_yes i HT.out.1 HT.out.2.2.1 HT.out.2.1 hit hu w3 w HS.out (nds_ok HT.out.1 0) HV.out.marks HV.out.pow B3.out)
        have PL := Lib.hid (fun W (hW : Below w.heap.size w W) => placed_any W w HS.out HF.out HT.out.1 HVV.out.1 HT.out.2.1 HT.out.2.2.1 HVV.out.2.2.1 hu hit hW)
        have hufl : (u.flat 0).length = u.size := trFlat_len u 0
        obtain ⟨un, hun⟩ : ∃ z, u.size = z := ⟨_, rfl⟩
        rw [hun] at hufl
        have HUF := Lib.hid hufl
        have HU := Lib.hid (And.intro hgu (And.intro (Nat.le_trans hud HT.out.2.1) (And.intro (show u.size ≤ 256 by have := HT.out.2.2.1; omega) (And.intro hu hit))))
        have i0 : (0 : Int) ≤ (i : Int) := Int.natCast_nonneg _
        have i1 : (i : Int) < (n : Int) := by omega
        have i64 : (i : Int) ≤ 256 := by have := HT.out.2.2.1; have := HT.out.2.2.2.2; omega
        clear hit hu hus hud hug hgu hufl hun hin
        go_upto_region 11 with (first
          | (go_at_call 14; go_must (refine PC.out.mono ?_); rintro e w4 ⟨pv, rfl, hp, b4⟩
             obtain ⟨pa, pc, hpv, _⟩ := hp.form
             subst hpv
             rw [HUF.out] at hp ⊢
             have SP := Lib.hid (hp.map_ EN.nd (fun x y h => ENode.nd h))
             go_must (have D4 := Lib.hid b4)
             clear ea3 ef3 la3 lf3
             go_must (have KA4 := Lib.hid (KA3.out.below b4 KA3.out.lt))
             go_must (have KB4 := Lib.hid (KB3.out.below b4 KB3.out.lt))
             have ea4 : w4.cell? ⟨qe, 0, none⟩ = some (.slice a n c) := KA4.out.cell (i := 0) rfl
             have ef4 : w4.cell? ⟨qe + 1, 0, none⟩ = some (.slice fa nf fc) := KB4.out.cell (i := 0) rfl
             have la4 : qe < w4.heap.size := KA4.out.lt
             have lf4 : qe + 1 < w4.heap.size := KB4.out.lt
             clear hp b4)
          | fail)
        have KP : Hid (Blk (w4.alloc (.cells #[.slice pa un pc] 24)) w4.heap.size 24 #[.slice pa un pc]) := Lib.hid (Blk.new _ _ _)
        have A4 : Hid (Below w4.heap.size w4 (w4.alloc (.cells #[.slice pa un pc] 24))) := Lib.hid ((Below.refl _ _).alloc (Nat.le_refl _) _)
        have KA5 : Hid (Blk (w4.alloc (.cells #[.slice pa un pc] 24)) qe 24 #[.slice a n c]) := Lib.hid (KA4.out.alloc _)
        have KB5 : Hid (Blk (w4.alloc (.cells #[.slice pa un pc] 24)) (qe + 1) 24 #[.slice fa nf fc]) := Lib.hid (KB4.out.alloc _)
        obtain ⟨pb, hpb⟩ : ∃ z, w4.heap.size = z := ⟨_, rfl⟩
        rw [hpb] at KP ⊢
        clear hpb ea4 ef4 la4 lf4
        generalize hW5 : w4.alloc (.cells #[.slice pa un pc] 24) = W5 at *
        clear hW5
        have D5 : Hid (Below w3.heap.size w3 W5) := Lib.hid (D4.out.trans (A4.out.mono D4.out.size))
        have k5 : W5.cell? ⟨pb, 0, none⟩ = some (.slice pa un pc) := KP.out.cell rfl
        have l5 : pb < W5.heap.size := KP.out.lt
        have CL := Lib.hid (closed_t (⟨SP.out, HV.out.below (B3.out.trans (D4.out.mono B3.out.size)), A4.out, HU.out.1, HU.out.2.1, HU.out.2.2.1⟩ : ExIs W5 w4 (.slice pa un pc) u))
        by_cases hsh : frR 32 u [] [] = []
        · rw [show decide (frR 32 u [] [] = []) = true by rw [hsh]; rfl] at CL
          have HSH := Lib.hid hsh
          clear hsh
          go_upto_region 16 with (first
            | (go_at_call 9; go_must (refine CL.out.mono ?_); rintro e w6 ⟨rfl, b6⟩
               go_must (have D6 := Lib.hid (D5.out.trans (b6.mono D5.out.size)))
               have B6 := Lib.hid (B3.out.trans (D6.out.mono B3.out.size))
               go_must (have KA6 := Lib.hid (KA5.out.below b6 KA5.out.lt))
               go_must (have KB6 := Lib.hid (KB5.out.below b6 KB5.out.lt))
               have ea6 : w6.cell? ⟨qe, 0, none⟩ = some (.slice a n c) := KA6.out.cell (i := 0) rfl
               have ef6 : w6.cell? ⟨qe + 1, 0, none⟩ = some (.slice fa nf fc) := KB6.out.cell (i := 0) rfl
               have la6 : qe < w6.heap.size := KA6.out.lt
               have lf6 : qe + 1 < w6.heap.size := KB6.out.lt
               clear b6)
            | (go_at_call 16; go_must (refine (PL.out w6 B6.out).mono ?_); rintro e w7 ⟨ga, gn, gc, es, rfl, hnl, hes, b7⟩
               have hrd := hnl.read
               rw [hes] at hrd
               have SG := Lib.hid hrd
               go_must (have D7 := Lib.hid (D6.out.trans (b7.mono D6.out.size)))
               clear ea6 ef6 la6 lf6
               go_must (have KA7 := Lib.hid (KA6.out.below b7 KA6.out.lt))
               go_must (have KB7 := Lib.hid (KB6.out.below b7 KB6.out.lt))
               have ea7 : w7.cell? ⟨qe, 0, none⟩ = some (.slice a n c) := KA7.out.cell (i := 0) rfl
               have ef7 : w7.cell? ⟨qe + 1, 0, none⟩ = some (.slice fa nf fc) := KB7.out.cell (i := 0) rfl
               have la7 : qe < w7.heap.size := KA7.out.lt
               have lf7 : qe + 1 < w7.heap.size := KB7.out.lt
               clear hnl hes hrd b7)
            | fail)
          have KG : Hid (Blk (w7.alloc (.cells #[.slice ga gn gc] 24)) w7.heap.size 24 #[.slice ga gn gc]) := Lib.hid (Blk.new _ _ _)
          have A7 : Hid (Below w7.heap.size w7 (w7.alloc (.cells #[.slice ga gn gc] 24))) := Lib.hid ((Below.refl _ _).alloc (Nat.le_refl _) _)
          have KA8 : Hid (Blk (w7.alloc (.cells #[.slice ga gn gc] 24)) qe 24 #[.slice a n c]) := Lib.hid (KA7.out.alloc _)
          obtain ⟨gb, hgb⟩ : ∃ z, w7.heap.size = z := ⟨_, rfl⟩
          rw [hgb] at KG ⊢
          clear hgb ea7 ef7 la7 lf7
          generalize hW8 : w7.alloc (.cells #[.slice ga gn gc] 24) = W8 at *
          clear hW8
          have D8 : Hid (Below w3.heap.size w3 W8) := Lib.hid (D7.out.trans (A7.out.mono D7.out.size))
          have g8 : W8.cell? ⟨gb, 0, none⟩ = some (.slice ga gn gc) := KG.out.cell rfl
          have l8 : gb < W8.heap.size := KG.out.lt
          have V7 := Lib.hid (HV.out.below (B3.out.trans (D7.out.mono B3.out.size)))
          have hgg := rep_good t i v HT.out.1 HVV.out.1
          have HGG := Lib.hid hgg
          have RX := Lib.hid (right_e W8 w7 SG.out (nds_ok hgg 0) V7.out.marks V7.out.pow A7.out)
          rw [right_tr hgg] at RX
          clear hgg
          by_cases hbig : 256 < (repT t i v).size ∨ 32 < (repT t i v).deep
          · rw [if_pos hbig] at RX
            clear hbig
            go_wp2_with (first
              | (go_at_call 11; go_must (refine RX.out.mono ?_); rintro e w9 ⟨rfl, b9⟩; have B9 := Lib.hid (B3.out.trans ((D8.out.trans (b9.mono D8.out.size)).mono B3.out.size)); clear b9)
              | fail)
            go_ret
            exact ⟨rfl, B9.out⟩
          · rw [if_neg hbig] at RX
            have hdG : (repT t i v).deep ≤ 32 := by omega
            have hsG : (repT t i v).size ≤ 256 := by omega
            have OX := Lib.hid (fun W (hW : Below w7.heap.size w7 W) => of_t (W := W) ⟨SG.out, V7.out, hW, HGG.out, hdG, hsG⟩)
            obtain ⟨p1, p2, p3, p4⟩ := PLAIN.out i u HU.out.2.2.2.1 HU.out.2.2.2.2 HSH.out hdG
            rw [HKF.out] at p3 p4
            obtain ⟨ku, hku⟩ : ∃ z, kR 32 u [] = z := ⟨_, rfl⟩
            obtain ⟨k0, hk0⟩ : ∃ z, kR 32 t [] = z := ⟨_, rfl⟩
            rw [hku] at p1 p3 p4
            rw [hk0] at p2 p3
            obtain ⟨lb, lo, x1, rfl, hlb, _, rfl, hx1⟩ := OL3.out.at_ p1
            obtain ⟨lb2, lo2, x2, e2, _, _, rfl, hx2⟩ := OL3.out.at_ p2
            injection e2 with e2
            injection e2 with e2 e3
            subst e2 e3
            have hlb := Nat.lt_of_lt_of_le hlb S3.out
            have n0p : (0 : Int) < (n : Int) := by omega
            have Y1 : Hid (∀ W, Below w3.heap.size w3 W → W.cell? ⟨lb, lo + i, none⟩ = some (.int .i64 ku) ∧ W.cell? ⟨lb, lo, none⟩ = some (.int .i64 k0)) := Lib.hid (fun W hW => ⟨by have := (hW.cell (p := ⟨lb, lo + i * 1, none⟩) hlb).trans (hx1 0 _ rfl); simpa using this, by have := (hW.cell (p := ⟨lb, lo + 0 * 1, none⟩) hlb).trans (hx2 0 _ rfl); simpa using this⟩)
            have HLB := Lib.hid hlb
            clear hbig hdG hsG hku hk0 p1 p2 hx1 hx2 hlb
            by_cases hk : kf = ku
            · obtain ⟨c1, c2, c3⟩ := p3 hk
              rw [c1, c2, c3] at OX
              have qk : (kf == ku) = true := by rw [hk]; simp
              clear p3 p4 hk c1 c2 c3
              go_wp2_with (first
                | (go_at_call 11; go_must (refine RX.out.mono ?_); rintro e w9 ⟨rfl, b9⟩
                   go_must (have A9 := Lib.hid (A7.out.trans (b9.mono A7.out.size)))
                   have D9 := Lib.hid (D8.out.trans (b9.mono D8.out.size))
                   go_must (have KA9 := Lib.hid (KA8.out.below b9 KA8.out.lt))
                   have g9 : w9.cell? ⟨gb, 0, none⟩ = some (.slice ga gn gc) := (KG.out.below b9 l8).cell rfl
                   have l9 : gb < w9.heap.size := Nat.lt_of_lt_of_le l8 b9.size
                   clear b9)
                | (go_at_call 8; go_must (refine (OX.out w9 A9.out).mono ?_); rintro e w10 ⟨rfl, b10⟩
                   go_must (have D10 := Lib.hid (D9.out.trans (b10.mono D9.out.size)))
                   have B10 := Lib.hid (B3.out.trans (D10.out.mono B3.out.size))
                   have y1 := (Y1.out w10 D10.out).1
                   have y0 := (Y1.out w10 D10.out).2
                   have lb10 : lb < w10.heap.size := Nat.lt_of_lt_of_le HLB.out D10.out.size
                   have ea10 : w10.cell? ⟨qe, 0, none⟩ = some (.slice a n c) := (KA9.out.below b10 KA9.out.lt).cell (i := 0) rfl
                   have la10 : qe < w10.heap.size := Nat.lt_of_lt_of_le KA9.out.lt b10.size
                   clear b10)
                | fail)
              go_ret
              exact ⟨rfl, B10.out⟩
            · obtain ⟨p5, p6⟩ := p4 hk
              have qk : (kf == ku) = false := by simpa using hk
              rcases Nat.eq_zero_or_pos i with hi0 | hi0
              · obtain ⟨c1, c2, c3⟩ := p5 hi0
                rw [c1, c2, c3] at OX
                have qi : ((i : Int) == 0) = true := by rw [hi0]; rfl
                have qf : (kf == kf) = true := by simp
                clear p3 p4 p5 p6 hk c1 c2 c3 hi0
                go_wp2_with (first
                  | (go_at_call 11; go_must (refine RX.out.mono ?_); rintro e w9 ⟨rfl, b9⟩
                     go_must (have A9 := Lib.hid (A7.out.trans (b9.mono A7.out.size)))
                     have D9 := Lib.hid (D8.out.trans (b9.mono D8.out.size))
                     go_must (have KA9 := Lib.hid (KA8.out.below b9 KA8.out.lt))
                     have g9 : w9.cell? ⟨gb, 0, none⟩ = some (.slice ga gn gc) := (KG.out.below b9 l8).cell rfl
                     have l9 : gb < w9.heap.size := Nat.lt_of_lt_of_le l8 b9.size
                     clear b9)
                  | (go_at_call 8; go_must (refine (OX.out w9 A9.out).mono ?_); rintro e w10 ⟨rfl, b10⟩
                     go_must (have D10 := Lib.hid (D9.out.trans (b10.mono D9.out.size)))
                     have B10 := Lib.hid (B3.out.trans (D10.out.mono B3.out.size))
                     have y1 := (Y1.out w10 D10.out).1
                     have y0 := (Y1.out w10 D10.out).2
                     have lb10 : lb < w10.heap.size := Nat.lt_of_lt_of_le HLB.out D10.out.size
                     have ea10 : w10.cell? ⟨qe, 0, none⟩ = some (.slice a n c) := (KA9.out.below b10 KA9.out.lt).cell (i := 0) rfl
                     have la10 : qe < w10.heap.size := Nat.lt_of_lt_of_le KA9.out.lt b10.size
                     clear b10)
                  | fail)
                go_ret
                exact ⟨rfl, B10.out⟩
              · obtain ⟨c1, c2, c3⟩ := p6 hi0
                rw [c1, c2, c3] at OX
                have qi : ((i : Int) == 0) = false := by simp; omega
                have UPC := Lib.hid (fun W (hW : Below w.heap.size w W) => up_is W w HS.out (by rw [nds_len]; exact HT.out.2.2.1) hW (par_is HT.out.1 HU.out.2.2.2.1 hi0))
                obtain ⟨pp, hpp⟩ : ∃ z, parT t i = z := ⟨_, rfl⟩
                rw [hpp] at UPC OX
                have qp : ((pp : Int) == (pp : Int)) = true := by simp
                clear p3 p4 p5 p6 hk c1 c2 c3 hi0 hpp
                go_wp2_with (first
                  | (go_at_call 11; go_must (refine RX.out.mono ?_); rintro e w9 ⟨rfl, b9⟩
                     go_must (have A9 := Lib.hid (A7.out.trans (b9.mono A7.out.size)))
                     have D9 := Lib.hid (D8.out.trans (b9.mono D8.out.size))
                     go_must (have KA9 := Lib.hid (KA8.out.below b9 KA8.out.lt))
                     have g9 : w9.cell? ⟨gb, 0, none⟩ = some (.slice ga gn gc) := (KG.out.below b9 l8).cell rfl
                     have l9 : gb < w9.heap.size := Nat.lt_of_lt_of_le l8 b9.size
                     clear b9)
                  | (go_at_call 8; go_must (refine (OX.out w9 A9.out).mono ?_); rintro e w10 ⟨rfl, b10⟩
                     go_must (have D10 := Lib.hid (D9.out.trans (b10.mono D9.out.size)))
                     have B10 := Lib.hid (B3.out.trans (D10.out.mono B3.out.size))
                     have y1 := (Y1.out w10 D10.out).1
                     have y0 := (Y1.out w10 D10.out).2
                     have lb10 : lb < w10.heap.size := Nat.lt_of_lt_of_le HLB.out D10.out.size
                     have ea10 : w10.cell? ⟨qe, 0, none⟩ = some (.slice a n c) := (KA9.out.below b10 KA9.out.lt).cell (i := 0) rfl
                     have la10 : qe < w10.heap.size := Nat.lt_of_lt_of_le KA9.out.lt b10.size
                     clear b10)
                  | (go_at_call 17; go_must (refine (UPC.out w10 B10.out).mono ?_); rintro e w11 ⟨rfl, b11⟩; have B11 := Lib.hid (B10.out.trans (b11.mono B10.out.size)); clear b11)
                  | fail)
                go_ret
                exact ⟨rfl, B11.out⟩
        · rw [show decide (frR 32 u [] [] = []) = false by simp [hsh]] at CL
          clear hsh
          go_wp2_with (first
            | (go_at_call 9; go_must (refine CL.out.mono ?_); rintro e w6 ⟨rfl, b6⟩; have B6 := Lib.hid (B3.out.trans ((D5.out.trans (b6.mono D5.out.size)).mono B3.out.size)); clear b6)
            | fail)
          go_ret
          exact ⟨rfl, B6.out⟩
    · have q1 : (er1 != 0) = false := by rw [h1]; rfl
      have q2 : (er2 != 0) = true := by simpa using h2
      clear h1 h2 HE1 HE2
      go_enter Tryz.func6, Tryz.ntmps6
      go_upto_region 1 with fail
      generalize hW0 : ((w.alloc (.cells #[.slice a n c] 24)).alloc (.cells #[.slice fa nf fc] 24)) = W0 at *
      clear hW0
      obtain ⟨qe, hqe⟩ : ∃ z, w.heap.size = z := ⟨_, rfl⟩
      have HQE := Lib.hid hqe
      rw [hqe] at KA0 KB0 ⊢
      clear hqe
      go_wp2_with (first
        | (go_at_call 7; go_must (refine (AWK.out).mono ?_); rintro e w1 ⟨rfl, b1⟩
           have B1 := Lib.hid (B0.out.trans (b1.mono B0.out.size))
           go_must (have KA1 := Lib.hid (KA0.out.below b1 KA0.out.lt))
           go_must (have KB1 := Lib.hid (KB0.out.below b1 KB0.out.lt))
           have ea1 : w1.cell? ⟨qe, 0, none⟩ = some (.slice a n c) := KA1.out.cell (i := 0) rfl
           have ef1 : w1.cell? ⟨qe + 1, 0, none⟩ = some (.slice fa nf fc) := KB1.out.cell (i := 0) rfl
           have la1 : qe < w1.heap.size := KA1.out.lt
           have lf1 : qe + 1 < w1.heap.size := KB1.out.lt
           clear b1)
        | (go_at_call 12; go_must (refine (EC.out w1 B1.out).mono ?_); rintro e w2 ⟨sv, rfl, ho, b2⟩
           obtain ⟨sa, sc, rfl⟩ := ho.form
           rw [HKL.out] at ho ⊢
           have OL := Lib.hid (ho.read (by decide))
           have B2 := Lib.hid (B1.out.trans (b2.mono B1.out.size))
           clear ea1 ef1 la1 lf1
           go_must (have KA2 := Lib.hid (KA1.out.below b2 KA1.out.lt))
           go_must (have KB2 := Lib.hid (KB1.out.below b2 KB1.out.lt))
           have ea2 : w2.cell? ⟨qe, 0, none⟩ = some (.slice a n c) := KA2.out.cell (i := 0) rfl
           have ef2 : w2.cell? ⟨qe + 1, 0, none⟩ = some (.slice fa nf fc) := KB2.out.cell (i := 0) rfl
           have la2 : qe < w2.heap.size := KA2.out.lt
           have lf2 : qe + 1 < w2.heap.size := KB2.out.lt
           clear b2 ho)
        | (go_at_call 8; go_must (refine (OC.out w2 B2.out).mono ?_); rintro e w3 ⟨rfl, b3⟩
           have B3 := Lib.hid (B2.out.trans (b3.mono B2.out.size))
           have S3 := Lib.hid b3.size
           have OL3 := Lib.hid (OL.out.below b3)
           clear ea2 ef2 la2 lf2
           go_must (have KA3 := Lib.hid (KA2.out.below b3 KA2.out.lt))
           go_must (have KB3 := Lib.hid (KB2.out.below b3 KB2.out.lt))
           have ea3 : w3.cell? ⟨qe, 0, none⟩ = some (.slice a n c) := KA3.out.cell (i := 0) rfl
           have ef3 : w3.cell? ⟨qe + 1, 0, none⟩ = some (.slice fa nf fc) := KB3.out.cell (i := 0) rfl
           have la3 : qe < w3.heap.size := KA3.out.lt
           have lf3 : qe + 1 < w3.heap.size := KB3.out.lt
           clear b3)
        | fail)
      go_ret
      exact ⟨rfl, B3.out⟩
  · have q1 : (er1 != 0) = true := by simpa using h1
    clear h1 HE1 HE2
    go_enter Tryz.func6, Tryz.ntmps6
    go_upto_region 1 with fail
    generalize hW0 : ((w.alloc (.cells #[.slice a n c] 24)).alloc (.cells #[.slice fa nf fc] 24)) = W0 at *
    clear hW0
    obtain ⟨qe, hqe⟩ : ∃ z, w.heap.size = z := ⟨_, rfl⟩
    have HQE := Lib.hid hqe
    rw [hqe] at KA0 KB0 ⊢
    clear hqe
    go_wp2_with (first
      | (go_at_call 7; go_must (refine (AWK.out).mono ?_); rintro e w1 ⟨rfl, b1⟩
         have B1 := Lib.hid (B0.out.trans (b1.mono B0.out.size))
         go_must (have KA1 := Lib.hid (KA0.out.below b1 KA0.out.lt))
         go_must (have KB1 := Lib.hid (KB0.out.below b1 KB0.out.lt))
         have ea1 : w1.cell? ⟨qe, 0, none⟩ = some (.slice a n c) := KA1.out.cell (i := 0) rfl
         have ef1 : w1.cell? ⟨qe + 1, 0, none⟩ = some (.slice fa nf fc) := KB1.out.cell (i := 0) rfl
         have la1 : qe < w1.heap.size := KA1.out.lt
         have lf1 : qe + 1 < w1.heap.size := KB1.out.lt
         clear b1)
      | (go_at_call 12; go_must (refine (EC.out w1 B1.out).mono ?_); rintro e w2 ⟨sv, rfl, ho, b2⟩
         obtain ⟨sa, sc, rfl⟩ := ho.form
         rw [HKL.out] at ho ⊢
         have OL := Lib.hid (ho.read (by decide))
         have B2 := Lib.hid (B1.out.trans (b2.mono B1.out.size))
         clear ea1 ef1 la1 lf1
         go_must (have KA2 := Lib.hid (KA1.out.below b2 KA1.out.lt))
         go_must (have KB2 := Lib.hid (KB1.out.below b2 KB1.out.lt))
         have ea2 : w2.cell? ⟨qe, 0, none⟩ = some (.slice a n c) := KA2.out.cell (i := 0) rfl
         have ef2 : w2.cell? ⟨qe + 1, 0, none⟩ = some (.slice fa nf fc) := KB2.out.cell (i := 0) rfl
         have la2 : qe < w2.heap.size := KA2.out.lt
         have lf2 : qe + 1 < w2.heap.size := KB2.out.lt
         clear b2 ho)
      | (go_at_call 8; go_must (refine (OC.out w2 B2.out).mono ?_); rintro e w3 ⟨rfl, b3⟩
         have B3 := Lib.hid (B2.out.trans (b3.mono B2.out.size))
         have S3 := Lib.hid b3.size
         have OL3 := Lib.hid (OL.out.below b3)
         clear ea2 ef2 la2 lf2
         go_must (have KA3 := Lib.hid (KA2.out.below b3 KA2.out.lt))
         go_must (have KB3 := Lib.hid (KB2.out.below b3 KB2.out.lt))
         have ea3 : w3.cell? ⟨qe, 0, none⟩ = some (.slice a n c) := KA3.out.cell (i := 0) rfl
         have ef3 : w3.cell? ⟨qe + 1, 0, none⟩ = some (.slice fa nf fc) := KB3.out.cell (i := 0) rfl
         have la3 : qe < w3.heap.size := KA3.out.lt
         have lf3 : qe + 1 < w3.heap.size := KB3.out.lt
         clear b3)
      | fail)
    go_ret
    exact ⟨rfl, B3.out⟩
end Go.Proofs.YtidkbodmiegbkaaGreatDoor
