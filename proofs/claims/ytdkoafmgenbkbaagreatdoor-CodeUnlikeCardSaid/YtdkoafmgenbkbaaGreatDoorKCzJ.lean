/- - -/
import Derived.Test.YtdkoafmgenbkbaaGreatDoorKM9
import Derived.Test.YtdkoafmgenbkbaaGreatDoorKCzL
set_option maxRecDepth 100000
set_option maxHeartbeats 32000000
set_option linter.unusedSimpArgs false
set_option linter.unusedVariables false
namespace Go.Proofs.YtdkoafmgenbkbaaGreatDoor
open Go.RowKit
theorem unlike_walk {l1 l2 : List ND} {v1 v2 : Value} (w : World) (hs1 : SlR w w.heap.size 4 (ND.Is w w.heap.size) v1 l1) (hs2 : SlR w w.heap.size 4 (ND.Is w w.heap.size) v2 l2) (hok1 : ∀ d ∈ l1, NdOk d) (hok2 : ∀ d ∈ l2, NdOk d) (hv : AllV w) : Calls Tryz.prog 6 #[.agg #[v1], .agg #[v2]] w fun e w' => e = .returned (.bool true) ∧ Below w.heap.size w w' := by
  obtain ⟨a1, c1, rfl⟩ : ∃ a c, v1 = .slice a l1.length c := by obtain ⟨a, c, h, _⟩ := hs1.form; exact ⟨a, c, h⟩
  obtain ⟨a2, c2, rfl⟩ : ∃ a c, v2 = .slice a l2.length c := by obtain ⟨a, c, h, _⟩ := hs2.form; exact ⟨a, c, h⟩
  obtain ⟨n1, hn1⟩ : ∃ n, l1.length = n := ⟨_, rfl⟩
  obtain ⟨n2, hn2⟩ : ∃ n, l2.length = n := ⟨_, rfl⟩
  rw [hn1] at hs1 ⊢
  rw [hn2] at hs2 ⊢
  have hb0 : Below w.heap.size w ((w.alloc (.cells #[.slice a1 n1 c1] 37)).alloc (.cells #[.slice a2 n2 c2] 37)) := (zB.alloc zL _).alloc (by simp) _
  have AW := zH (awake_any ((w.alloc (.cells #[.slice a1 n1 c1] 37)).alloc (.cells #[.slice a2 n2 c2] 37)) (hv.below hb0))
  have KE : Hid (Blk ((w.alloc (.cells #[.slice a1 n1 c1] 37)).alloc (.cells #[.slice a2 n2 c2] 37)) w.heap.size 37 #[.slice a1 n1 c1] ∧ Blk ((w.alloc (.cells #[.slice a1 n1 c1] 37)).alloc (.cells #[.slice a2 n2 c2] 37)) (w.heap.size + 1) 37 #[.slice a2 n2 c2]) := zH ⟨(Blk.new _ _ _).alloc _, Blk.new_ (by simp) _ _⟩
  have HB := zH hb0
  have m1 : n1 ≤ 9223372036854775807 := by have := hs1.caps; unfold maxLen at this; omega
  have m2 : n2 ≤ 9223372036854775807 := by have := hs2.caps; unfold maxLen at this; omega
  have HN1 := zH hn1
  have HN2 := zH hn2
  have HS1 := zH hs1
  have HS2 := zH hs2
  have HOK := zH (And.intro hok1 hok2)
  have C1 := zH (fun W (hW : Below w.heap.size w W) => compile_any W w hs1 hok1 hv hW)
  have C2 := zH (fun W (hW : Below w.heap.size w W) => compile_any W w hs2 hok2 hv hW)
  obtain ⟨r1, hr1⟩ : ∃ z, rightE l1 = z := ⟨_, rfl⟩
  obtain ⟨r2, hr2⟩ : ∃ z, rightE l2 = z := ⟨_, rfl⟩
  rw [hr1] at C1
  rw [hr2] at C2
  have HR := zH (And.intro hr1 hr2)
  clear hs1 hs2 hok1 hok2 hv hn1 hn2 hb0 hr1 hr2
  go_enter Tryz.func6, Tryz.ntmps6
  go_upto_region 5 with (first
    | (go_at_call 7; go_must (refine AW.out.mono ?_); rintro e w1 ⟨rfl, b1⟩
       go_must (have B1 := zH (HB.out.trans (b1.mono HB.out.size)))
       go_must (have K1 := zH (KE.out.1.below b1 KE.out.1.lt))
       go_must (have J1 := zH (KE.out.2.below b1 KE.out.2.lt))
       have e1 : w1.cell? ⟨w.heap.size, 0, none⟩ = some (.slice a1 n1 c1) := K1.out.cell rfl
       have e2 : w1.cell? ⟨w.heap.size + 1, 0, none⟩ = some (.slice a2 n2 c2) := J1.out.cell rfl
       clear b1)
    | (have _t := e1; go_at_call 12; go_must (refine (C1.out w1 B1.out).mono ?_)
       rintro e w6 ⟨ov, oc, rfl, hc1, ho, b6⟩
       obtain ⟨oa, occ, rfl⟩ := ho.form
       obtain ⟨on, hon⟩ : ∃ z, oc.length = z := ⟨_, rfl⟩
       rw [hon] at ho ⊢
       have CI1 := zH hc1
       have S6 := zH (ho.read (by decide))
       have B6 : Hid (Below w.heap.size w (w6.alloc (.cells #[.slice oa on occ] 24))) := zH ((B1.out.trans (b6.mono B1.out.size)).alloc (by have := B1.out.size; have := b6.size; omega) _)
       have D6 : Hid (Below w6.heap.size w6 (w6.alloc (.cells #[.slice oa on occ] 24))) := zH (zB.alloc zL _)
       have M6 : Hid (Blk (w6.alloc (.cells #[.slice oa on occ] 24)) w6.heap.size 24 #[.slice oa on occ]) := zH (Blk.new _ _ _)
       have K6 := zH ((K1.out.below b6 K1.out.lt).alloc (.cells #[.slice oa on occ] 24))
       have J6 := zH ((J1.out.below b6 J1.out.lt).alloc (.cells #[.slice oa on occ] 24))
       have e6 : (w6.alloc (.cells #[.slice oa on occ] 24)).cell? ⟨w.heap.size + 1, 0, none⟩ = some (.slice a2 n2 c2) := J6.out.cell rfl
       clear e1 e2 _t b6 ho hc1 hon)
    | (go_at_call 12; go_must (refine (C2.out _ B6.out).mono ?_)
       rintro e w7 ⟨ov2, oc2, rfl, hc2, ho, b7⟩
       obtain ⟨oa2, occ2, rfl⟩ := ho.form
       obtain ⟨on2, hon2⟩ : ∃ z, oc2.length = z := ⟨_, rfl⟩
       rw [hon2] at ho ⊢
       have CI2 := zH hc2
       have S7 := zH (ho.read (by decide))
       have D7 := zH (D6.out.trans (b7.mono D6.out.size))
       have K7 := zH (K6.out.below b7 K6.out.lt)
       have J7 := zH (J6.out.below b7 J6.out.lt)
       have M7 := zH (M6.out.below b7 M6.out.lt)
       have B7 := zH (B6.out.trans (b7.mono B6.out.size))
       clear b7 ho hc2 e6 hon2)
    | fail)
  have S8a := zH ((S6.out.below D7.out).more D7.out.size)
  have KC8 : Hid (Blk (w7.alloc (.cells #[.slice oa2 on2 occ2] 24)) w6.heap.size 24 #[.slice oa on occ]) := zH (M7.out.alloc _)
  have KD8 : Hid (Blk (w7.alloc (.cells #[.slice oa2 on2 occ2] 24)) w7.heap.size 24 #[.slice oa2 on2 occ2]) := zH (Blk.new _ _ _)
  have KE8 : Hid (Blk (w7.alloc (.cells #[.slice oa2 on2 occ2] 24)) w.heap.size 37 #[.slice a1 n1 c1]) := zH (K7.out.alloc _)
  have JE8 : Hid (Blk (w7.alloc (.cells #[.slice oa2 on2 occ2] 24)) (w.heap.size + 1) 37 #[.slice a2 n2 c2]) := zH (J7.out.alloc _)
  have B8 : Hid (Below w.heap.size w (w7.alloc (.cells #[.slice oa2 on2 occ2] 24))) := zH (B7.out.alloc B7.out.size _)
  have B8' : Hid (Below w7.heap.size w7 (w7.alloc (.cells #[.slice oa2 on2 occ2] 24))) := zH (zB.alloc zL _)
  have SM11 := zH (fun X (hX : Below (w7.alloc (.cells #[.slice oa2 on2 occ2] 24)).heap.size (w7.alloc (.cells #[.slice oa2 on2 occ2] 24)) X) => rsame_any X w7 S8a.out S7.out (B8'.out.trans (hX.mono B8'.out.size)))
  generalize hW8 : w7.alloc (.cells #[.slice oa2 on2 occ2] 24) = W8 at *
  clear hW8 K7 J7 M7 K6 J6 M6
  obtain ⟨p1, hp1⟩ : ∃ z, w6.heap.size = z := ⟨_, rfl⟩
  obtain ⟨p2, hp2⟩ : ∃ z, w7.heap.size = z := ⟨_, rfl⟩
  rw [hp1] at KC8 ⊢
  rw [hp2] at KD8 ⊢
  clear hp1 hp2
  by_cases h0 : r1 = 0 ∧ r2 = 0
  · have q1 : ((r1 : Int) != 0) = false := by rw [h0.1]; rfl
    have q2 : ((r2 : Int) != 0) = false := by rw [h0.2]; rfl
    have HZ := zH h0
    clear h0
    go_upto_region 8 with fail
    clear q1 q2
    go_loopw [9] (fun v wq => ∃ j : Nat, j ≤ n1 ∧ v = .int .i64 (j : Int) ∧ Hid ((∀ d ∈ l1.take j, ¬ (d.kind = 7 ∨ (31 ≤ d.kind ∧ d.kind ≤ 34))) ∧ Below W8.heap.size W8 wq)) (fun v _ => n1 - (intOf v).toNat)
    case atStart => exact ⟨0, Nat.zero_le _, rfl, zH ⟨fun d hd => by simp at hd, zB⟩⟩
    case round =>
      obtain ⟨j, hj, rfl, hr⟩ := hrel
      have HNO := zH hr.out.1
      have BQ := zH hr.out.2
      obtain ⟨wq, hwq⟩ : ∃ W, W = wr := ⟨wr, rfl⟩
      subst hwq
      clear hr
      have KQ1 := zH (KE8.out.below BQ.out KE8.out.lt)
      have k1 : wq.cell? ⟨w.heap.size, 0, none⟩ = some (.slice a1 n1 c1) := KQ1.out.cell rfl
      have lk1 := KQ1.out.lt
      have j0 : (0 : Int) ≤ (j : Int) := Int.natCast_nonneg _
      by_cases hlt : j < n1
      · obtain ⟨d, hd⟩ := get_some HN1.out hlt
        obtain ⟨bN, off, x, rfl, hbN, _, ⟨kv, rfl, hks⟩, hx⟩ := HS1.out.at_ hd
        obtain ⟨ka, kc, rfl, _⟩ := hks.form
        obtain ⟨kn, hkn⟩ : ∃ z, d.kids.length = z := ⟨_, rfl⟩
        rw [hkn] at hx
        have BWQ : Below w.heap.size w wq := B8.out.trans (BQ.out.mono B8.out.size)
        have y0 := (BWQ.cell (p := ⟨bN, off + j * 4, none⟩) hbN).trans (hx 0 _ rfl)
        have y1 := (BWQ.cell (p := ⟨bN, off + j * 4 + 1, none⟩) hbN).trans (hx 1 _ rfl)
        have y2 := (BWQ.cell (p := ⟨bN, off + j * 4 + 2, none⟩) hbN).trans (hx 2 _ rfl)
        have y3 := (BWQ.cell (p := ⟨bN, off + j * 4 + 3, none⟩) hbN).trans (hx 3 _ rfl)
        have lbN : bN < wq.heap.size := Nat.lt_of_lt_of_le hbN BWQ.size
        have HBWQ := zH BWQ
        have htk := take_snoc1 hd
        have HTK := zH htk
        have jn : (j : Int) < (n1 : Int) := by omega
        have jnd : decide (j < n1) = true := decide_eq_true hlt
        have HLT := zH hlt
        have NM := zH (named_any d.kind (txt d.text) d.num ka kn kc wq)
        obtain ⟨vb, hvb⟩ : ∃ z, decide (d.kind = 7 ∨ (31 ≤ d.kind ∧ d.kind ≤ 34)) = z := ⟨_, rfl⟩
        rw [hvb] at NM
        have HVB := zH hvb
        clear hd hx hbN hks hkn htk BWQ hlt hvb
        cases vb
        · go_wp2_with (first
            | (go_at_call 14; go_must (refine NM.out.mono ?_); rintro e w9 ⟨rfl, b9⟩; have B9 := zH (BQ.out.trans (b9.mono BQ.out.size)); clear b9)
            | fail)
          go_roundw
          case rel => exact ⟨j + 1, HLT.out, by go_num, zH ⟨fun d' hd' => by rw [HTK.out] at hd'; rcases List.mem_append.1 hd' with h | h; exact HNO.out d' h; (simp at h; subst h; exact of_decide_eq_false HVB.out), B9.out⟩⟩
          case measure => simp [intOf]; have := HLT.out; omega
        · go_wp2_with (first
            | (go_at_call 14; go_must (refine NM.out.mono ?_); rintro e w9 ⟨rfl, b9⟩; have B9 := zH (HBWQ.out.trans (b9.mono HBWQ.out.size)); clear b9)
            | fail)
          go_ret
          exact ⟨rfl, B9.out⟩
      · have hjn : j = n1 := by omega
        have d1 : decide ((j : Int) < (n1 : Int)) = false := by rw [hjn]; simp
        have d2 : decide (j < n1) = false := by rw [hjn]; simp
        have hall : l1.take j = l1 := List.take_of_length_le (by rw [HN1.out, hjn]; exact Nat.le_refl _)
        rw [hall] at HNO
        clear hlt hjn hall hj
        have HNO1 := HNO
        have BQ1 := BQ
        go_upto_region 13 with fail
        clear HNO k1 lk1 KQ1 j0
        go_loopw [10] (fun v wq => ∃ j : Nat, j ≤ n2 ∧ v = .int .i64 (j : Int) ∧ Hid ((∀ d ∈ l2.take j, ¬ (d.kind = 7 ∨ (31 ≤ d.kind ∧ d.kind ≤ 34))) ∧ Below W8.heap.size W8 wq)) (fun v _ => n2 - (intOf v).toNat)
        case atStart => exact ⟨0, Nat.zero_le _, rfl, zH ⟨fun d hd => by simp at hd, BQ1.out⟩⟩
        case round =>
          obtain ⟨j, hj, rfl, hr⟩ := hrel
          have HNO := zH hr.out.1
          have BQ := zH hr.out.2
          obtain ⟨wq, hwq⟩ : ∃ W, W = wr := ⟨wr, rfl⟩
          subst hwq
          clear hr
          have KQ1 := zH (JE8.out.below BQ.out JE8.out.lt)
          have k1 : wq.cell? ⟨w.heap.size + 1, 0, none⟩ = some (.slice a2 n2 c2) := KQ1.out.cell rfl
          have lk1 := KQ1.out.lt
          have j0 : (0 : Int) ≤ (j : Int) := Int.natCast_nonneg _
          by_cases hlt : j < n2
          · obtain ⟨d, hd⟩ := get_some HN2.out hlt
            obtain ⟨bN, off, x, rfl, hbN, _, ⟨kv, rfl, hks⟩, hx⟩ := HS2.out.at_ hd
            obtain ⟨ka, kc, rfl, _⟩ := hks.form
            obtain ⟨kn, hkn⟩ : ∃ z, d.kids.length = z := ⟨_, rfl⟩
            rw [hkn] at hx
            have BWQ : Below w.heap.size w wq := B8.out.trans (BQ.out.mono B8.out.size)
            have y0 := (BWQ.cell (p := ⟨bN, off + j * 4, none⟩) hbN).trans (hx 0 _ rfl)
            have y1 := (BWQ.cell (p := ⟨bN, off + j * 4 + 1, none⟩) hbN).trans (hx 1 _ rfl)
            have y2 := (BWQ.cell (p := ⟨bN, off + j * 4 + 2, none⟩) hbN).trans (hx 2 _ rfl)
            have y3 := (BWQ.cell (p := ⟨bN, off + j * 4 + 3, none⟩) hbN).trans (hx 3 _ rfl)
            have lbN : bN < wq.heap.size := Nat.lt_of_lt_of_le hbN BWQ.size
            have HBWQ := zH BWQ
            have htk := take_snoc1 hd
            have HTK := zH htk
            have jn : (j : Int) < (n2 : Int) := by omega
            have jnd : decide (j < n2) = true := decide_eq_true hlt
            have HLT := zH hlt
            have NM := zH (named_any d.kind (txt d.text) d.num ka kn kc wq)
            obtain ⟨vb, hvb⟩ : ∃ z, decide (d.kind = 7 ∨ (31 ≤ d.kind ∧ d.kind ≤ 34)) = z := ⟨_, rfl⟩
            rw [hvb] at NM
            have HVB := zH hvb
            clear hd hx hbN hks hkn htk BWQ hlt hvb
            cases vb
            · go_wp2_with (first
                | (go_at_call 14; go_must (refine NM.out.mono ?_); rintro e w9 ⟨rfl, b9⟩; have B9 := zH (BQ.out.trans (b9.mono BQ.out.size)); clear b9)
                | fail)
              go_roundw
              case rel => exact ⟨j + 1, HLT.out, by go_num, zH ⟨fun d' hd' => by rw [HTK.out] at hd'; rcases List.mem_append.1 hd' with h | h; exact HNO.out d' h; (simp at h; subst h; exact of_decide_eq_false HVB.out), B9.out⟩⟩
              case measure => simp [intOf]; have := HLT.out; omega
            · go_wp2_with (first
                | (go_at_call 14; go_must (refine NM.out.mono ?_); rintro e w9 ⟨rfl, b9⟩; have B9 := zH (HBWQ.out.trans (b9.mono HBWQ.out.size)); clear b9)
                | fail)
              go_ret
              exact ⟨rfl, B9.out⟩
          · have hjn : j = n2 := by omega
            have d1 : decide ((j : Int) < (n2 : Int)) = false := by rw [hjn]; simp
            have d2 : decide (j < n2) = false := by rw [hjn]; simp
            have hall : l2.take j = l2 := List.take_of_length_le (by rw [HN2.out, hjn]; exact Nat.le_refl _)
            rw [hall] at HNO
            clear hlt hjn hall hj
            have SAME8 := zH (fun X (hX : Below W8.heap.size W8 X) => ref8_any X w HS1.out HS2.out (B8.out.trans (hX.mono B8.out.size)))
            have key : decide (oc = oc2) = decide (l1.map ndK = l2.map ndK) := unlike_law HOK.out.1 HOK.out.2 (HR.out.1.trans HZ.out.1) (HR.out.2.trans HZ.out.2) CI1.out CI2.out HNO1.out HNO.out
            rw [key] at SM11
            obtain ⟨B, hB⟩ : ∃ z, decide (l1.map ndK = l2.map ndK) = z := ⟨_, rfl⟩
            rw [hB] at SM11 SAME8
            have hBB : (B == B) = true := by simp
            go_upto_region 17 with fail
            clear key hB k1 lk1
            have x1 : wq.cell? ⟨p1, 0, none⟩ = some (.slice oa on occ) := (KC8.out.below BQ.out KC8.out.lt).cell rfl
            have x2 : wq.cell? ⟨p2, 0, none⟩ = some (.slice oa2 on2 occ2) := (KD8.out.below BQ.out KD8.out.lt).cell rfl
            have x3 : wq.cell? ⟨w.heap.size, 0, none⟩ = some (.slice a1 n1 c1) := (KE8.out.below BQ.out KE8.out.lt).cell rfl
            have x4 : wq.cell? ⟨w.heap.size + 1, 0, none⟩ = some (.slice a2 n2 c2) := (JE8.out.below BQ.out JE8.out.lt).cell rfl
            have z1 : p1 < wq.heap.size := (KC8.out.below BQ.out KC8.out.lt).lt
            have z2 : p2 < wq.heap.size := (KD8.out.below BQ.out KD8.out.lt).lt
            have z3 : w.heap.size < wq.heap.size := (KE8.out.below BQ.out KE8.out.lt).lt
            have z4 : w.heap.size + 1 < wq.heap.size := (JE8.out.below BQ.out JE8.out.lt).lt
            have tokA : True := trivial
            have tokB : True := trivial
            go_region_law (first
              | (have _t := tokA; go_simp; go_at_call 11; first
                   | (with_reducible refine (SM11.out _ BQ.out.drew).mono ?_)
                   | (with_reducible refine (SM11.out _ BY.out).mono ?_)
                   | (with_reducible refine (SM11.out _ BY.out.drew).mono ?_)
                 clear tokA _t x1 x2 x3 x4 z1 z2 z3 z4
                 rintro e ya ⟨rfl, bz⟩
                 first
                   | (have BY := zH (BY.out.trans (bz.mono BY.out.size))
                      have x1 : ya.cell? ⟨p1, 0, none⟩ = some (.slice oa on occ) := (KC8.out.below BY.out KC8.out.lt).cell rfl
                      have x2 : ya.cell? ⟨p2, 0, none⟩ = some (.slice oa2 on2 occ2) := (KD8.out.below BY.out KD8.out.lt).cell rfl
                      have x3 : ya.cell? ⟨w.heap.size, 0, none⟩ = some (.slice a1 n1 c1) := (KE8.out.below BY.out KE8.out.lt).cell rfl
                      have x4 : ya.cell? ⟨w.heap.size + 1, 0, none⟩ = some (.slice a2 n2 c2) := (JE8.out.below BY.out JE8.out.lt).cell rfl
                      have z1 : p1 < ya.heap.size := (KC8.out.below BY.out KC8.out.lt).lt
                      have z2 : p2 < ya.heap.size := (KD8.out.below BY.out KD8.out.lt).lt
                      have z3 : w.heap.size < ya.heap.size := (KE8.out.below BY.out KE8.out.lt).lt
                      have z4 : w.heap.size + 1 < ya.heap.size := (JE8.out.below BY.out JE8.out.lt).lt)
                   | (have BY := zH (BQ.out.drew.trans (bz.mono BQ.out.drew.size))
                      have x1 : ya.cell? ⟨p1, 0, none⟩ = some (.slice oa on occ) := (KC8.out.below BY.out KC8.out.lt).cell rfl
                      have x2 : ya.cell? ⟨p2, 0, none⟩ = some (.slice oa2 on2 occ2) := (KD8.out.below BY.out KD8.out.lt).cell rfl
                      have x3 : ya.cell? ⟨w.heap.size, 0, none⟩ = some (.slice a1 n1 c1) := (KE8.out.below BY.out KE8.out.lt).cell rfl
                      have x4 : ya.cell? ⟨w.heap.size + 1, 0, none⟩ = some (.slice a2 n2 c2) := (JE8.out.below BY.out JE8.out.lt).cell rfl
                      have z1 : p1 < ya.heap.size := (KC8.out.below BY.out KC8.out.lt).lt
                      have z2 : p2 < ya.heap.size := (KD8.out.below BY.out KD8.out.lt).lt
                      have z3 : w.heap.size < ya.heap.size := (KE8.out.below BY.out KE8.out.lt).lt
                      have z4 : w.heap.size + 1 < ya.heap.size := (JE8.out.below BY.out JE8.out.lt).lt)
                 clear bz)
              | (have _t := tokB; go_simp; go_at_call 15; first
                   | (with_reducible refine (SAME8.out _ BQ.out.drew).mono ?_)
                   | (with_reducible refine (SAME8.out _ BY.out).mono ?_)
                   | (with_reducible refine (SAME8.out _ BY.out.drew).mono ?_)
                 clear tokB _t x1 x2 x3 x4 z1 z2 z3 z4
                 rintro e yb ⟨rfl, bz⟩
                 first
                   | (have BY := zH (BY.out.trans (bz.mono BY.out.size))
                      have x1 : yb.cell? ⟨p1, 0, none⟩ = some (.slice oa on occ) := (KC8.out.below BY.out KC8.out.lt).cell rfl
                      have x2 : yb.cell? ⟨p2, 0, none⟩ = some (.slice oa2 on2 occ2) := (KD8.out.below BY.out KD8.out.lt).cell rfl
                      have x3 : yb.cell? ⟨w.heap.size, 0, none⟩ = some (.slice a1 n1 c1) := (KE8.out.below BY.out KE8.out.lt).cell rfl
                      have x4 : yb.cell? ⟨w.heap.size + 1, 0, none⟩ = some (.slice a2 n2 c2) := (JE8.out.below BY.out JE8.out.lt).cell rfl
                      have z1 : p1 < yb.heap.size := (KC8.out.below BY.out KC8.out.lt).lt
                      have z2 : p2 < yb.heap.size := (KD8.out.below BY.out KD8.out.lt).lt
                      have z3 : w.heap.size < yb.heap.size := (KE8.out.below BY.out KE8.out.lt).lt
                      have z4 : w.heap.size + 1 < yb.heap.size := (JE8.out.below BY.out JE8.out.lt).lt)
                   | (have BY := zH (BQ.out.drew.trans (bz.mono BQ.out.drew.size))
                      have x1 : yb.cell? ⟨p1, 0, none⟩ = some (.slice oa on occ) := (KC8.out.below BY.out KC8.out.lt).cell rfl
                      have x2 : yb.cell? ⟨p2, 0, none⟩ = some (.slice oa2 on2 occ2) := (KD8.out.below BY.out KD8.out.lt).cell rfl
                      have x3 : yb.cell? ⟨w.heap.size, 0, none⟩ = some (.slice a1 n1 c1) := (KE8.out.below BY.out KE8.out.lt).cell rfl
                      have x4 : yb.cell? ⟨w.heap.size + 1, 0, none⟩ = some (.slice a2 n2 c2) := (JE8.out.below BY.out JE8.out.lt).cell rfl
                      have z1 : p1 < yb.heap.size := (KC8.out.below BY.out KC8.out.lt).lt
                      have z2 : p2 < yb.heap.size := (KD8.out.below BY.out KD8.out.lt).lt
                      have z3 : w.heap.size < yb.heap.size := (KE8.out.below BY.out KE8.out.lt).lt
                      have z4 : w.heap.size + 1 < yb.heap.size := (JE8.out.below BY.out JE8.out.lt).lt)
                 clear bz)
              | fail)
            all_goals
              go_wp2_with fail
              go_ret
              exact ⟨rfl, B8.out.trans (BY.out.mono B8.out.size)⟩
  · rcases (by omega : r1 ≠ 0 ∨ (r1 = 0 ∧ r2 ≠ 0)) with h | ⟨h, h2⟩
    · have q1 : ((r1 : Int) != 0) = true := by rw [bne_iff_ne]; omega
      clear h h0
      go_wp2_with fail
      go_ret
      exact ⟨rfl, B8.out⟩
    · have q1 : ((r1 : Int) != 0) = false := by rw [h]; rfl
      have q2 : ((r2 : Int) != 0) = true := by rw [bne_iff_ne]; omega
      clear h h2 h0
      go_wp2_with fail
      go_ret
      exact ⟨rfl, B8.out⟩
theorem lawUnlike {l1 l2 : List ND} {v1 v2 : Value} (w : World) (hs1 : SlR w w.heap.size 4 (ND.Is w w.heap.size) v1 l1) (hs2 : SlR w w.heap.size 4 (ND.Is w w.heap.size) v2 l2) (hok1 : ∀ d ∈ l1, NdOk d) (hok2 : ∀ d ∈ l2, NdOk d) (hv : AllV w) : Calls Tryz.prog 6 #[.agg #[v1], .agg #[v2]] w fun e w' => e = .returned (.bool true) ∧ Below w.heap.size w w' := unlike_walk w hs1 hs2 hok1 hok2 hv
end Go.Proofs.YtdkoafmgenbkbaaGreatDoor
