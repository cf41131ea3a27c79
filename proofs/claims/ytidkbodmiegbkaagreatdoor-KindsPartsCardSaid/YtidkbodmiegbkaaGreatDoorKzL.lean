/- Chapter 09, outright: the law KindsParts, walked. -/
import Derived.Test.YtidkbodmiegbkaaGreatDoorKzF
import Derived.Test.YtidkbodmiegbkaaGreatDoorKzG
import Derived.Test.YtidkbodmiegbkaaGreatDoorKzK
import Derived.Deep.QuietTactic
namespace Go.Proofs.YtidkbodmiegbkaaGreatDoor
set_option linter.unusedSimpArgs false
set_option linter.unusedVariables false
open Go.RowKit

set_option maxRecDepth 100000 in
set_option maxHeartbeats 8000000 in
theorem parts_bad {l : List ND} {v : Value} (w : World) (hs : SlR w w.heap.size 4 (ND.Is w w.heap.size) v l) (hv : AllV w) (hok : ∀ d ∈ l, NdOk d) (hr : rightE l ≠ 0) : Calls Tryz.prog 5 #[.agg #[v]] w fun e w' => e = .returned (.bool true) ∧ Below w.heap.size w w' := by
  obtain ⟨a, c, rfl⟩ : ∃ a c, v = .slice a (l).length c := by obtain ⟨a, c, h, _⟩ := hs.form; exact ⟨a, c, h⟩
  obtain ⟨n, hn⟩ : ∃ n, (l).length = n := ⟨_, rfl⟩
  rw [hn] at hs ⊢
  have hb : Below w.heap.size w (w.alloc (.cells #[.slice a n c] 24)) := (Below.refl _ _).alloc (Nat.le_refl _) _
  have AW := Lib.hid (awake_any (w.alloc (.cells #[.slice a n c] 24)) (hv.below hb))
  have KE : Hid (Blk (w.alloc (.cells #[.slice a n c] 24)) w.heap.size 24 #[.slice a n c]) := Lib.hid (Blk.new _ _ _)
  have HB := Lib.hid hb
  have HN := Lib.hid hn
  have OB := Lib.hid (fun W (hW : Below w.heap.size w W) => each_bad W w hs hok hv.marks hv.pow hv.takes hW hr)
  obtain ⟨r, hrr⟩ : ∃ r, rightE l = r := ⟨_, rfl⟩
  rw [hrr] at OB hr
  have r0 : ((r : Int) != 0) = true := by rw [bne_iff_ne]; omega
  clear hs hok hv hn hb hrr hr
  go_enter Tryz.func5, Tryz.ntmps5
  go_wp2_with (first
    | (go_at_call 7; go_must (refine AW.out.mono ?_); rintro e w1 ⟨rfl, b1⟩
       go_must (have B1 := Lib.hid (HB.out.trans (b1.mono HB.out.size)))
       go_must (have K1 := Lib.hid (KE.out.below b1 KE.out.lt))
       have e1 : w1.cell? ⟨w.heap.size, 0, none⟩ = some (.slice a n c) := K1.out.cell rfl
       have l1 : w.heap.size < w1.heap.size := K1.out.lt
       clear b1)
    | (go_at_call 12; go_must (refine (OB.out w1 B1.out).mono ?_); rintro e w2 ⟨rfl, b2⟩; have B2 := Lib.hid (B1.out.trans (b2.mono B1.out.size)); clear b2)
    | fail)
  go_ret
  exact ⟨rfl, B2.out⟩
set_option maxRecDepth 100000 in
set_option maxHeartbeats 8000000 in
theorem parts_wrong {t : Tr} {v : Value} (w : World) (hs : SlR w w.heap.size 4 (ND.Is w w.heap.size) v (ndsT t 0)) (hv : AllV w) (hg : t.Good) (hd : t.deep ≤ 32) (hsz : t.size ≤ 256) (hwr : ¬ wR 32 t [] 0 < 0) : Calls Tryz.prog 5 #[.agg #[v]] w fun e w' => e = .returned (.bool true) ∧ Below w.heap.size w w' := by
  obtain ⟨a, c, rfl⟩ : ∃ a c, v = .slice a (ndsT t 0).length c := by obtain ⟨a, c, h, _⟩ := hs.form; exact ⟨a, c, h⟩
  obtain ⟨n, hn⟩ : ∃ n, (ndsT t 0).length = n := ⟨_, rfl⟩
  rw [hn] at hs ⊢
  have hb : Below w.heap.size w (w.alloc (.cells #[.slice a n c] 24)) := (Below.refl _ _).alloc (Nat.le_refl _) _
  have AW := Lib.hid (awake_any (w.alloc (.cells #[.slice a n c] 24)) (hv.below hb))
  have KE : Hid (Blk (w.alloc (.cells #[.slice a n c] 24)) w.heap.size 24 #[.slice a n c]) := Lib.hid (Blk.new _ _ _)
  have HB := Lib.hid hb
  have HN := Lib.hid hn
  have OB := Lib.hid (fun W (hW : Below w.heap.size w W) => each_t (W := W) ⟨hs, hv, hW, hg, hd, hsz⟩)
  have hk : kindsT t = [] := by unfold kindsT; rw [if_neg hwr]
  have r0 := err_ne (l := ndsT t 0) hwr
  rw [hk] at OB
  obtain ⟨r, hrr⟩ : ∃ r, errN (ndsT t 0) t = r := ⟨_, rfl⟩
  obtain ⟨z, hz⟩ : ∃ r, atN t = r := ⟨_, rfl⟩
  rw [hrr] at r0
  rw [hrr, hz] at OB
  clear hs hv hn hb hrr hg hd hsz hwr hk hz
  go_enter Tryz.func5, Tryz.ntmps5
  go_wp2_with (first
    | (go_at_call 7; go_must (refine AW.out.mono ?_); rintro e w1 ⟨rfl, b1⟩
       go_must (have B1 := Lib.hid (HB.out.trans (b1.mono HB.out.size)))
       go_must (have K1 := Lib.hid (KE.out.below b1 KE.out.lt))
       have e1 : w1.cell? ⟨w.heap.size, 0, none⟩ = some (.slice a n c) := K1.out.cell rfl
       have l1 : w.heap.size < w1.heap.size := K1.out.lt
       clear b1)
    | (go_at_call 12; go_must (refine (OB.out w1 B1.out).mono ?_); rintro e w2 ⟨sv, rfl, ho, b2⟩; obtain ⟨sa, sc, rfl⟩ := ho.form; have B2 := Lib.hid (B1.out.trans (b2.mono B1.out.size)); clear b2 ho)
    | fail)
  go_ret
  exact ⟨rfl, B2.out⟩
set_option maxRecDepth 100000 in
set_option maxHeartbeats 16000000 in
theorem parts_ok {t : Tr} {v : Value} (w : World) (hs : SlR w w.heap.size 4 (ND.Is w w.heap.size) v (ndsT t 0)) (hv : AllV w) (hg : t.Good) (hd : t.deep ≤ 32) (hsz : t.size ≤ 256) (hwr : wR 32 t [] 0 < 0) : Calls Tryz.prog 5 #[.agg #[v]] w fun e w' => e = .returned (.bool true) ∧ Below w.heap.size w w' := by
  obtain ⟨a, c, rfl⟩ : ∃ a c, v = .slice a (ndsT t 0).length c := by obtain ⟨a, c, h, _⟩ := hs.form; exact ⟨a, c, h⟩
  obtain ⟨n, hn⟩ : ∃ n, (ndsT t 0).length = n := ⟨_, rfl⟩
  rw [hn] at hs ⊢
  have hb : Below w.heap.size w (w.alloc (.cells #[.slice a n c] 24)) := (Below.refl _ _).alloc (Nat.le_refl _) _
  have AW := Lib.hid (awake_any (w.alloc (.cells #[.slice a n c] 24)) (hv.below hb))
  have KE : Hid (Blk (w.alloc (.cells #[.slice a n c] 24)) w.heap.size 24 #[.slice a n c]) := Lib.hid (Blk.new _ _ _)
  have HB := Lib.hid hb
  have HN := Lib.hid hn
  have OB := Lib.hid (fun W (hW : Below w.heap.size w W) => each_t (W := W) ⟨hs, hv, hW, hg, hd, hsz⟩)
  have hk : kindsT t = ksR 32 t [] := by unfold kindsT; rw [if_pos hwr]
  have ha : atN t = 0 := by unfold atN; rw [if_pos hwr]
  have he : errN (ndsT t 0) t = 0 := by unfold errN; rw [if_pos hwr]
  rw [hk, ha, he] at OB
  have hnt : t.size = n := by rw [← hn, nds_len]
  have hkl : (ksR 32 t []).length = n := by rw [ksR_len 32 t [] hd, hnt]
  have PC := Lib.hid (fun i u (hi : i < t.size) (hu : subT t i = some u) W (hW : Below w.heap.size w W) => part_yes i hg hsz hd hi hu W w hs (nds_ok hg 0) hv.marks hv.pow hW)
  have BC := Lib.hid (fun i u (hi : i < t.size) (hu : subT t i = some u) W (hW : Below w.heap.size w W) => behind_all hs (by rw [nds_len]; exact hsz) 32 u i W (by
      obtain ⟨u', e1, e2, e3, e4, e5, _⟩ := sub_some t i hi
      rw [hu] at e1
      injection e1 with e1
      subst e1
      unfold Stands ndsT
      have := congrArg (List.map EN.nd) (e5 0)
      rw [List.map_take, List.map_drop, Nat.zero_add] at this
      exact this) (by obtain ⟨u', e1, e2, e3, _⟩ := sub_some t i hi; rw [hu] at e1; injection e1 with e1; subst e1; omega) (by rw [nds_len]; obtain ⟨u', e1, e2, e3, _⟩ := sub_some t i hi; rw [hu] at e1; injection e1 with e1; subst e1; exact e2) hW)
  have HT := Lib.hid (And.intro hg (And.intro hd (And.intro hsz (And.intro hwr hnt))))
  have HV := Lib.hid hv
  have HKL := Lib.hid hkl
  have n256 : n ≤ 256 := by omega
  have qnn : ((n : Int) != (n : Int)) = false := by simp
  clear hs hv hn hb hg hd hsz hwr hk ha he hnt hkl
  go_enter Tryz.func5, Tryz.ntmps5
  go_upto_region 9 with (first
    | (go_at_call 7; go_must (refine AW.out.mono ?_); rintro e w1 ⟨rfl, b1⟩
       go_must (have B1 := Lib.hid (HB.out.trans (b1.mono HB.out.size)))
       go_must (have K1 := Lib.hid (KE.out.below b1 KE.out.lt))
       have e1 : w1.cell? ⟨w.heap.size, 0, none⟩ = some (.slice a n c) := K1.out.cell rfl
       have l1 : w.heap.size < w1.heap.size := K1.out.lt
       clear b1)
    | (go_at_call 12; go_must (refine (OB.out w1 B1.out).mono ?_); rintro e w2 ⟨sv, rfl, ho, b2⟩
       obtain ⟨sa, sc, rfl⟩ := ho.form
       rw [HKL.out] at ho ⊢
       go_must (have B2 := Lib.hid (B1.out.trans (b2.mono B1.out.size)))
       go_must (have K2 := Lib.hid (K1.out.below b2 K1.out.lt))
       have e2 : w2.cell? ⟨w.heap.size, 0, none⟩ = some (.slice a n c) := K2.out.cell rfl
       have l2 : w.heap.size < w2.heap.size := K2.out.lt
       have OL := Lib.hid (ho.read (by decide))
       clear b2 ho)
    | fail)
  clear e1 l1 e2 l2
  obtain ⟨eb, heb⟩ : ∃ z, w.heap.size = z := ⟨_, rfl⟩
  have HEB := Lib.hid heb
  rw [heb] at K2 ⊢
  clear heb
  go_loopw [6, 7, 8, 9, 10, 11, 12] (fun v6 _ _ _ _ _ _ wr => ∃ i : Nat, i ≤ n ∧ v6 = .int .i64 (i : Int) ∧ Hid (Below w2.heap.size w2 wr)) (fun v6 _ _ _ _ _ _ _ => n - (intOf v6).toNat)
  case atStart => exact ⟨0, by omega, rfl, Lib.hid (Below.refl _ _)⟩
  case round =>
    obtain ⟨i, hi, rfl, D2⟩ := hrel
    obtain ⟨wo, hwo⟩ : ∃ W, W = wr := ⟨wr, rfl⟩
    subst hwo
    have B5 : Hid (Below w.heap.size w wo) := Lib.hid (B2.out.trans (D2.out.mono B2.out.size))
    have K5 : Hid (Blk wo eb 24 #[.slice a n c]) := Lib.hid (K2.out.below D2.out K2.out.lt)
    have e5 : wo.cell? ⟨eb, 0, none⟩ = some (.slice a n c) := K5.out.cell rfl
    have l5 : eb < wo.heap.size := K5.out.lt
    have i0 : (0 : Int) ≤ (i : Int) := Int.natCast_nonneg _
    by_cases hlt : i < n
    · obtain ⟨u, hu, hus, hud, hug, _, _⟩ := sub_some t i (by rw [HT.out.2.2.2.2]; exact hlt)
      have hug := hug HT.out.1
      have PCI := Lib.hid (PC.out i u (by rw [HT.out.2.2.2.2]; exact hlt) hu wo B5.out)
      have BCI := Lib.hid (fun W hW => BC.out i u (by rw [HT.out.2.2.2.2]; exact hlt) hu W hW)
      have hus2 : i + u.size ≤ n := by rw [← HT.out.2.2.2.2]; exact hus
      have hufl : (u.flat 0).length = u.size := trFlat_len u 0
      obtain ⟨un, hun⟩ : ∃ z, u.size = z := ⟨_, rfl⟩
      rw [hun] at hufl BCI hus2
      have HUF := Lib.hid hufl
      have HU := Lib.hid (And.intro hug (And.intro (Nat.le_trans hud HT.out.2.1) (And.intro hun hu)))
      have i1 : (i : Int) < (n : Int) := by omega
      have i1d : decide (i < n) = true := decide_eq_true hlt
      have HLT := Lib.hid hlt
      have u256 : un ≤ 256 := by omega
      obtain ⟨z, hz⟩ : ∃ z, i + un = z := ⟨_, rfl⟩
      rw [hz] at BCI
      have z1 : (z : Int) - (i : Int) = (un : Int) := by omega
      have zn : (z : Int) ≤ 256 := by omega
      have z0 : (0 : Int) ≤ (z : Int) := Int.natCast_nonneg _
      have ZU : Hid (i + un ≤ n) := Lib.hid hus2
      clear hu hus hud hug hus2 hufl hun hlt hz
      go_upto_region 12 with (first
        | (go_at_call 14; go_must (refine PCI.out.mono ?_); rintro e w6 ⟨pv, rfl, hp, b6⟩
           obtain ⟨pa, pc, hpv, _⟩ := hp.form
           subst hpv
           rw [HUF.out] at hp ⊢
           have SP := Lib.hid (hp.map_ EN.nd (fun x y h => ENode.nd h))
           have D6 := Lib.hid (D2.out.trans (b6.mono D2.out.size))
           clear hp b6)
        | fail)
      have KP : Hid (Blk (w6.alloc (.cells #[.slice pa un pc] 24)) w6.heap.size 24 #[.slice pa un pc]) := Lib.hid (Blk.new _ _ _)
      have A6 : Hid (Below w6.heap.size w6 (w6.alloc (.cells #[.slice pa un pc] 24))) := Lib.hid ((Below.refl _ _).alloc (Nat.le_refl _) _)
      obtain ⟨pb, hpb⟩ : ∃ z, w6.heap.size = z := ⟨_, rfl⟩
      have HPB := Lib.hid hpb
      rw [hpb] at KP ⊢
      clear hpb
      generalize hW7 : w6.alloc (.cells #[.slice pa un pc] 24) = W7 at *
      clear hW7
      have D7 : Hid (Below w2.heap.size w2 W7) := Lib.hid (D6.out.trans (A6.out.mono D6.out.size))
      have k7 : W7.cell? ⟨pb, 0, none⟩ = some (.slice pa un pc) := KP.out.cell rfl
      have l7 : pb < W7.heap.size := KP.out.lt
      have EX := Lib.hid (fun W (hW : Below w6.heap.size w6 W) => (⟨SP.out, HV.out.below (B2.out.trans (D6.out.mono B2.out.size)), hW, HU.out.1, HU.out.2.1, by rw [HU.out.2.2.1]; exact u256⟩ : ExIs W w6 (.slice pa un pc) u))
      have CL := Lib.hid (closed_t (EX.out W7 A6.out))
      clear e5 l5
      by_cases hsh : frR 32 u [] [] = []
      · rw [show decide (frR 32 u [] [] = []) = true by rw [hsh]; rfl] at CL
        obtain ⟨hw2, hk2⟩ := part_shut HT.out.2.1 HT.out.2.2.2.1 HU.out.2.2.2 hsh
        have EC := Lib.hid (fun W (hW : Below w6.heap.size w6 W) => each_t (EX.out W hW))
        have hk : kindsT u = ksR 32 u [] := by unfold kindsT; rw [if_pos hw2]
        have ha : atN u = 0 := by unfold atN; rw [if_pos hw2]
        have he : errN (ndsT u 0) u = 0 := by unfold errN; rw [if_pos hw2]
        rw [hk, ha, he] at EC
        have hkl : (ksR 32 u []).length = un := by rw [ksR_len 32 u [] HU.out.2.1, HU.out.2.2.1]
        have HKU := Lib.hid hkl
        have HKK := Lib.hid hk2
        have quu : ((un : Int) != (un : Int)) = false := by simp
        clear hsh hw2 hk2 hk ha he hkl
        go_upto_region 19 with (first
          | (go_at_call 9; go_must (refine CL.out.mono ?_); rintro e w8 ⟨rfl, b8⟩
             go_must (have A8 := Lib.hid (A6.out.trans (b8.mono A6.out.size)))
             have D8 := Lib.hid (D7.out.trans (b8.mono D7.out.size))
             have k8 : w8.cell? ⟨pb, 0, none⟩ = some (.slice pa un pc) := (KP.out.below b8 KP.out.lt).cell rfl
             have l8 : pb < w8.heap.size := Nat.lt_of_lt_of_le l7 b8.size
             clear b8)
          | (go_at_call 12; go_must (refine (EC.out w8 A8.out).mono ?_); rintro e w9 ⟨sv2, rfl, ho, b9⟩
             obtain ⟨ma, mc, rfl⟩ := ho.form
             rw [HKU.out] at ho ⊢
             have OM := Lib.hid ho
             have D9 := Lib.hid (D8.out.trans (b9.mono D8.out.size))
             have B9 : Hid (Below w.heap.size w w9) := Lib.hid (B2.out.trans (D9.out.mono B2.out.size))
             have e9 : w9.cell? ⟨eb, 0, none⟩ = some (.slice a n c) := (K2.out.below D9.out K2.out.lt).cell rfl
             have l9 : eb < w9.heap.size := Nat.lt_of_lt_of_le K2.out.lt D9.out.size
             clear b9 ho)
          | (go_at_call 15; go_must (refine (BCI.out w9 B9.out).mono ?_); rintro e w10 ⟨rfl, b10⟩
             have D10 := Lib.hid (D9.out.trans (b10.mono D9.out.size))
             have OM10 := Lib.hid (((OM.out.below b10 (Nat.le_refl _)).read (by decide)))
             clear b10)
          | fail)
        have OL10 := Lib.hid (OL.out.below D10.out)
        clear k7 l7 k8 l8 e9 l9
        go_loopw [12] (fun v12 wr => ∃ k : Nat, k ≤ un ∧ v12 = .int .i64 (k : Int) ∧ Quiet w10 wr) (fun v12 _ => un - (intOf v12).toNat)
        case atStart => exact ⟨0, by omega, rfl, Quiet.refl _⟩
        case round =>
          obtain ⟨k, hk, rfl, hq⟩ := hrel
          have hqb := hq.below w10.heap.size
          have HQ := Lib.hid hq
          by_cases hlk : k < un
          · obtain ⟨y, hy⟩ := get_some HKU.out hlk
            have hy2 : (ksR 32 t [])[i + k]? = some y := by rw [HKK.out k (by rw [HU.out.2.2.1]; exact hlk)]; exact hy
            obtain ⟨mb, mo, x1, rfl, hmb, _, rfl, hx1⟩ := OM10.out.at_ hy
            obtain ⟨lb, lo, x2, rfl, hlb, _, rfl, hx2⟩ := OL10.out.at_ hy2
            obtain ⟨r, hr⟩ : ∃ r, i + k = r := ⟨_, rfl⟩
            rw [hr] at hx2
            have y1 := (hqb.cell (p := ⟨mb, mo + k * 1, none⟩) hmb).trans (hx1 0 _ rfl)
            have y2 := ((hqb.mono D10.out.size).cell (p := ⟨lb, lo + r * 1, none⟩) hlb).trans (hx2 0 _ rfl)
            simp only [Nat.add_zero, Nat.mul_one] at y1 y2
            have hik : (i : Int) + (k : Int) = (r : Int) := by omega
            have r1 : (r : Int) < (n : Int) := by have := ZU.out; omega
            have r0 : (0 : Int) ≤ (r : Int) := Int.natCast_nonneg _
            have k0 : (0 : Int) ≤ (k : Int) := Int.natCast_nonneg _
            have k1 : (k : Int) < (un : Int) := by omega
            have qyy : (y != y) = false := by simp
            have lm : mb < wr.heap.size := Nat.lt_of_lt_of_le hmb hqb.size
            have ll : lb < wr.heap.size := by have := D10.out.size; have := hqb.size; omega
            have HLK := Lib.hid hlk
            clear hy hy2 hx1 hx2 hmb hlb hr hlk hqb hq
            go_wp2_with fail
            go_quiet (fail)
            go_wp2_with fail
            go_roundw
            case rel => exact ⟨k + 1, HLK.out, by go_num, HQ.out.drewN _⟩
            case measure => simp [intOf]; have := HLK.out; omega
          · have hkk : k = un := by omega
            have d1 : decide ((k : Int) < (un : Int)) = false := by rw [hkk]; simp
            have d2 : decide (k < un) = false := by rw [hkk]; simp
            clear hlk hkk hqb hq
            go_wp2_with fail
            go_roundw
            case rel => exact ⟨i + 1, HLT.out, by go_num, Lib.hid (D10.out.trans (HQ.out.below _))⟩
            case measure => simp [intOf]; have := HLT.out; omega
      · rw [show decide (frR 32 u [] [] = []) = false by simp [hsh]] at CL
        clear hsh
        go_wp2_with (first
          | (go_at_call 9; go_must (refine CL.out.mono ?_); rintro e w8 ⟨rfl, b8⟩
             have D8 := Lib.hid (D7.out.trans (b8.mono D7.out.size))
             clear b8)
          | fail)
        go_roundw
        case rel => exact ⟨i + 1, HLT.out, by go_num, D8⟩
        case measure => simp [intOf]; have := HLT.out; omega
    · have hin : i = n := by omega
      have d1 : decide ((i : Int) < (n : Int)) = false := by rw [hin]; simp
      have d2 : decide (i < n) = false := by rw [hin]; simp
      clear hlt hin
      go_wp2_with fail
      go_ret
      exact ⟨rfl, B5.out⟩
theorem lawParts {l : List ND} {v : Value} (w : World) (hs : SlR w w.heap.size 4 (ND.Is w w.heap.size) v l) (hok : ∀ d ∈ l, NdOk d) (hv : AllV w) : Calls Tryz.prog 5 #[.agg #[v]] w fun e w' => e = .returned (.bool true) ∧ Below w.heap.size w w' := by
  by_cases hr : rightE l = 0
  · obtain ⟨t, tg, td, ts, hl, _⟩ := right_tree hok hr
    subst hl
    by_cases hwr : wR 32 t [] 0 < 0
    · exact parts_ok w hs hv tg td ts hwr
    · exact parts_wrong w hs hv tg td ts hwr
  · exact parts_bad w hs hv hok hr
end Go.Proofs.YtidkbodmiegbkaaGreatDoor
