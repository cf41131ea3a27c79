/- - -/
import Derived.Test.YtdkoafmgenbkbaaGreatDoorKM9
import Derived.Test.YtdkoafmgenbkbaaGreatDoorKCzD
set_option maxRecDepth 100000
set_option maxHeartbeats 32000000
set_option linter.unusedSimpArgs false
set_option linter.unusedVariables false
namespace Go.Proofs.YtdkoafmgenbkbaaGreatDoor
open Go.RowKit
theorem steps_bad {l : List ND} {v : Value} (w : World) (hs : SlR w w.heap.size 4 (ND.Is w w.heap.size) v l) (hv : AllV w) (hok : ∀ d ∈ l, NdOk d) (hr : rightE l ≠ 0) : Calls Tryz.prog 4 #[.agg #[v]] w fun e w' => e = .returned (.bool true) ∧ Below w.heap.size w w' := by
  obtain ⟨a, c, rfl⟩ : ∃ a c, v = .slice a (l).length c := by obtain ⟨a, c, h, _⟩ := hs.form; exact ⟨a, c, h⟩
  obtain ⟨n, hn⟩ : ∃ n, (l).length = n := ⟨_, rfl⟩
  rw [hn] at hs ⊢
  have hb : Below w.heap.size w (w.alloc (.cells #[.slice a n c] 37)) := zB.alloc zL _
  have AW := zH (awake_any (w.alloc (.cells #[.slice a n c] 37)) (hv.below hb))
  have KE : Hid (Blk (w.alloc (.cells #[.slice a n c] 37)) w.heap.size 37 #[.slice a n c]) := zH (Blk.new _ _ _)
  have HB := zH hb
  have HN := zH hn
  have CB := zH (fun W (hW : Below w.heap.size w W) => compile_bad W w hs hok hv.marks hv.lays.vars.1 hW hr)
  have RB := zH (fun W (hW : Below w.heap.size w W) => right_e W w hs hok hv.marks hv.lays.vars.1 hW)
  obtain ⟨r, hrr⟩ : ∃ r, rightE l = r := ⟨_, rfl⟩
  rw [hrr] at CB RB hr
  have r0 : ((r : Int) != 0) = true := by rw [bne_iff_ne]; omega
  clear hs hok hv hn hb hrr hr
  go_enter Tryz.func4, Tryz.ntmps4
  go_wp2_with (first
    | (go_at_call 7; go_must (refine AW.out.mono ?_); rintro e w1 ⟨rfl, b1⟩
       go_must (have B1 := zH (HB.out.trans (b1.mono HB.out.size)))
       go_must (have K1 := zH (KE.out.below b1 KE.out.lt))
       have e1 : w1.cell? ⟨w.heap.size, 0, none⟩ = some (.slice a n c) := K1.out.cell rfl
       have l1 : w.heap.size < w1.heap.size := K1.out.lt
       clear b1)
    | (go_at_call 12; go_must (refine (CB.out w1 B1.out).mono ?_); rintro e w2 ⟨rfl, b2⟩
       go_must (have K2 := zH ((K1.out.below b2 K1.out.lt).alloc (.cells #[.slice none 0 0] 24)))
       have KC2 : Hid (Blk (w2.alloc (.cells #[.slice none 0 0] 24)) w2.heap.size 24 #[.slice none 0 0]) := zH (Blk.new _ _ _)
       have B2 := zH ((B1.out.trans (b2.mono B1.out.size)).alloc (by have := B1.out.size; have := b2.size; omega) (.cells #[.slice none 0 0] 24))
       have e2 : (w2.alloc (.cells #[.slice none 0 0] 24)).cell? ⟨w.heap.size, 0, none⟩ = some (.slice a n c) := K2.out.cell rfl
       clear b2 e1 l1)
    | (go_at_call 13; go_must (refine (RB.out _ B2.out).mono ?_); rintro e w3 ⟨rfl, b3⟩
       have B3 := zH (B2.out.trans (b3.mono B2.out.size))
       have c3 : w3.cell? ⟨w2.heap.size, 0, none⟩ = some (.slice none 0 0) := (KC2.out.below b3 KC2.out.lt).cell rfl
       have l3 := (KC2.out.below b3 KC2.out.lt).lt
       clear b3)
    | fail)
  go_ret
  exact ⟨rfl, B3.out⟩
theorem steps_tree {t : Tr} {v : Value} (w : World) (hs : SlR w w.heap.size 4 (ND.Is w w.heap.size) v (ndsT t 0)) (hv : AllV w) (hg : t.Good) (hd : t.deep ≤ 32) (hsz : t.size ≤ 256) : Calls Tryz.prog 4 #[.agg #[v]] w fun e w' => e = .returned (.bool true) ∧ Below w.heap.size w w' := by
  obtain ⟨a, c, rfl⟩ : ∃ a c, v = .slice a (ndsT t 0).length c := by obtain ⟨a, c, h, _⟩ := hs.form; exact ⟨a, c, h⟩
  obtain ⟨n, hn⟩ : ∃ n, (ndsT t 0).length = n := ⟨_, rfl⟩
  rw [hn] at hs ⊢
  have hb : Below w.heap.size w (w.alloc (.cells #[.slice a n c] 37)) := zB.alloc zL _
  have AW := zH (awake_any (w.alloc (.cells #[.slice a n c] 37)) (hv.below hb))
  have KE : Hid (Blk (w.alloc (.cells #[.slice a n c] 37)) w.heap.size 37 #[.slice a n c]) := zH (Blk.new _ _ _)
  have HB := zH hb
  have HN := zH hn
  have hok := nds_ok hg 0
  have CO := zH (fun W (hW : Below w.heap.size w W) => compile_ok W w hs hok hv.marks hv.lays.vars.1 hW hg hd hsz)
  have RB := zH (fun W (hW : Below w.heap.size w W) => right_e W w hs hok hv.marks hv.lays.vars.1 hW)
  rw [(right_of hg hsz hd).1] at RB
  have hnt : t.size = n := by rw [← hn, nds_len]
  have hlen := cR_len 32 t [] 1 hg hd
  have hright := code_right hg hd hsz
  have hlaw := code_steps hg hd
  have hpos := cR_pos_steps 32 t [] 1 hg hd (by omega)
  have hct : codeT t = cR 32 t [] 1 := rfl
  rw [hct] at CO
  clear hct
  obtain ⟨cl, hcl⟩ : ∃ c, cR 32 t [] 1 = c := ⟨_, rfl⟩
  rw [hcl] at CO hlen hright hlaw hpos
  obtain ⟨cn, hcn⟩ : ∃ c, cl.length = c := ⟨_, rfl⟩
  have HCN := zH hcn
  rw [hcn, hnt] at hlen
  rw [hnt] at hlaw hsz
  obtain ⟨l, hl⟩ : ∃ l, ndsT t 0 = l := ⟨_, rfl⟩
  rw [hl] at hs hlaw HN
  have HS := zH hs
  have HLAW := zH hlaw
  have HPOS := zH hpos
  have RCD := zH (fun (W W0 : World) (v : Value) (h : SlR W0 W0.heap.size 4 Ins.Is v cl) (hW : Below W0.heap.size W0 W) => right_code W W0 h hW)
  rw [hright] at RCD
  have n256 : n ≤ 256 := hsz
  have len4 : (cn : Int) ≤ 4 * (n : Int) := by omega
  have lenf : decide ((cn : Int) > 4 * (n : Int)) = false := decide_eq_false (by omega)
  clear hs hv hn hb hg hd hsz hok hnt hlen hright hlaw hpos hcl hcn hl
  go_enter Tryz.func4, Tryz.ntmps4
  go_upto_region 12 with (first
    | (go_at_call 7; go_must (refine AW.out.mono ?_); rintro e w1 ⟨rfl, b1⟩
       go_must (have B1 := zH (HB.out.trans (b1.mono HB.out.size)))
       go_must (have K1 := zH (KE.out.below b1 KE.out.lt))
       have e1 : w1.cell? ⟨w.heap.size, 0, none⟩ = some (.slice a n c) := K1.out.cell rfl
       have l1 : w.heap.size < w1.heap.size := K1.out.lt
       clear b1)
    | (go_at_call 12; go_must (refine (CO.out w1 B1.out).mono ?_); rintro e w2 ⟨ov, rfl, ho, b2⟩
       obtain ⟨ca, cc, rfl⟩ := ho.form
       rw [HCN.out] at ho ⊢
       have S2 := zH (ho.read (by decide))
       go_must (have K2 := zH ((K1.out.below b2 K1.out.lt).alloc (.cells #[.slice ca cn cc] 24)))
       have KC2 : Hid (Blk (w2.alloc (.cells #[.slice ca cn cc] 24)) w2.heap.size 24 #[.slice ca cn cc]) := zH (Blk.new _ _ _)
       have B2 := zH ((B1.out.trans (b2.mono B1.out.size)).alloc (by have := B1.out.size; have := b2.size; omega) (.cells #[.slice ca cn cc] 24))
       have D2 : Hid (Below w2.heap.size w2 (w2.alloc (.cells #[.slice ca cn cc] 24))) := zH (zB.alloc zL _)
       have e2 : (w2.alloc (.cells #[.slice ca cn cc] 24)).cell? ⟨w.heap.size, 0, none⟩ = some (.slice a n c) := K2.out.cell rfl
       clear b2 e1 l1 ho)
    | (go_at_call 13; go_must (refine (RB.out _ B2.out).mono ?_); rintro e w3 ⟨rfl, b3⟩
       have B3 := zH (B2.out.trans (b3.mono B2.out.size))
       have D3 := zH (D2.out.trans (b3.mono D2.out.size))
       have K3 := zH (K2.out.below b3 K2.out.lt)
       have KC3 := zH (KC2.out.below b3 KC2.out.lt)
       have c3 : w3.cell? ⟨w2.heap.size, 0, none⟩ = some (.slice ca cn cc) := KC3.out.cell rfl
       have l3 := KC3.out.lt
       clear b3 e2)
    | (go_at_call 9; go_must (refine (RCD.out w3 w2 _ S2.out D3.out).mono ?_); rintro e w4 ⟨rfl, b4⟩
       have B4 := zH (B3.out.trans (b4.mono B3.out.size))
       have D4 := zH (D3.out.trans (b4.mono D3.out.size))
       have K4 := zH (K3.out.below b4 K3.out.lt)
       have KC4 := zH (KC3.out.below b4 KC3.out.lt)
       have c4 : w4.cell? ⟨w2.heap.size, 0, none⟩ = some (.slice ca cn cc) := KC4.out.cell rfl
       have e4 : w4.cell? ⟨w.heap.size, 0, none⟩ = some (.slice a n c) := K4.out.cell rfl
       have l4 := KC4.out.lt
       have l4' := K4.out.lt
       clear b4 c3 l3)
    | fail)
  have S4 := zH (S2.out.below D4.out)
  have hz4 : w2.heap.size ≤ w4.heap.size := D4.out.size
  go_loopw [8, 9, 11] (fun v8 v9 v11 wr => ∃ i : Nat, i ≤ cn ∧ v11 = .int .i64 (i : Int) ∧ v8 = .int .i64 (stepsN (cl.take i)) ∧ v9 = .int .i64 (nextsN (cl.take i) : Int) ∧ wr = w4) (fun _ _ v11 _ => cn - (intOf v11).toNat)
  case atStart => exact ⟨0, Nat.zero_le _, rfl, rfl, rfl, rfl⟩
  case round =>
    obtain ⟨i, hi, rfl, rfl, rfl, rfl⟩ := hrel
    have i0 : (0 : Int) ≤ (i : Int) := Int.natCast_nonneg _
    have hst := steps_take HPOS.out i
    rw [HLAW.out.1] at hst
    have hnx : nextsN (cl.take i) ≤ 1024 := Nat.le_trans (nexts_le _) (by rw [List.length_take]; omega)
    by_cases hlt : i < cn
    · obtain ⟨x, hx⟩ := get_some HCN.out hlt
      obtain ⟨bI, off, xs, hca, hbI, _, ⟨rfl, _⟩, hcx⟩ := S4.out.at_ hx
      have hca' := hca
      subst hca'
      have hsn := steps_snoc hx
      have hst1 := steps_take HPOS.out (i + 1)
      rw [HLAW.out.1, hsn.1] at hst1
      have y0 := hcx 0 _ rfl
      have y1 := hcx 1 _ rfl
      simp only [Nat.add_zero] at y0
      have lbI : bI < wr.heap.size := Nat.lt_of_lt_of_le hbI hz4
      have in1 : (i : Int) < (cn : Int) := by omega
      have inn : decide (i < cn) = true := decide_eq_true hlt
      obtain ⟨S, hS⟩ : ∃ z, stepsN (cl.take i) = z := ⟨_, rfl⟩
      obtain ⟨X, hX⟩ : ∃ z, nextsN (cl.take i) = z := ⟨_, rfl⟩
      rw [hS] at hst hst1 hsn ⊢
      rw [hX] at hnx hsn ⊢
      by_cases h1 : x.op = 1
      · obtain ⟨y, hy, hy1⟩ := HLAW.out.2.2 i x hx h1
        have hlt2 : i + 1 < cn := by rw [← HCN.out]; exact (List.getElem?_eq_some_iff.1 hy).1
        obtain ⟨bJ, off2, xs2, hca2, hbJ, _, ⟨rfl, _⟩, hcx2⟩ := S4.out.at_ hy
        injection hca2 with hca2
        injection hca2 with hca2 hca3
        subst hca2 hca3
        have y2 := hcx2 0 _ rfl
        simp only [Nat.add_zero] at y2
        have e1 : (x.op == 1) = true := by rw [h1]; rfl
        have e2 : (x.op == 39) = false := by rw [h1]; rfl
        have e3 : (y.op == 1) = false := by simpa using hy1
        have e4' : (((i : Int) + 1) == (cn : Int)) = false := by simp; omega
        have i2 : ((i : Int) + 1) < (cn : Int) := by omega
        have i2n : decide (i + 1 < cn) = true := decide_eq_true hlt2
        rw [if_pos h1] at hst1 hsn
        rw [if_neg (by omega)] at hsn
        have hwr : IntKind.i64.wrap (S + x.arg) = S + x.arg := by rw [IntKind.wrap_i64]; omega
        have HSN := zH hsn
        have HLT := zH hlt
        clear hx hca hcx hcx2 hy hy1 h1 hsn hst hst1 hlt hbI hbJ
        go_wp2_with fail
        go_roundw
        case rel => exact ⟨i + 1, HLT.out, by go_num, by rw [HSN.out.1], by rw [HSN.out.2]; rfl, by first | rfl | trivial⟩
        case measure => simp [intOf]; have := HLT.out; omega
      · have e1 : (x.op == 1) = false := by simpa using h1
        rw [if_neg h1] at hst1 hsn
        by_cases h39 : x.op = 39
        · have e2 : (x.op == 39) = true := by rw [h39]; rfl
          rw [if_pos h39] at hsn
          have HSN := zH hsn
          have HLT := zH hlt
          clear hx hca hcx h1 h39 hsn hst hst1 hlt hbI
          go_wp2_with fail
          go_roundw
          case rel => exact ⟨i + 1, HLT.out, by go_num, by rw [HSN.out.1, Int.add_zero], by rw [HSN.out.2]; go_num, by first | rfl | trivial⟩
          case measure => simp [intOf]; have := HLT.out; omega
        · have e2 : (x.op == 39) = false := by simpa using h39
          rw [if_neg h39] at hsn
          have HSN := zH hsn
          have HLT := zH hlt
          clear hx hca hcx h1 h39 hsn hst hst1 hlt hbI
          go_wp2_with fail
          go_roundw
          case rel => exact ⟨i + 1, HLT.out, by go_num, by rw [HSN.out.1, Int.add_zero], by rw [HSN.out.2]; rfl, by first | rfl | trivial⟩
          case measure => simp [intOf]; have := HLT.out; omega
    · have hin : i = cn := by omega
      have d1 : decide ((i : Int) < (cn : Int)) = false := by rw [hin]; simp
      have d2 : decide (i < cn) = false := by rw [hin]; simp
      have hall : cl.take i = cl := List.take_of_length_le (by rw [HCN.out, hin]; exact Nat.le_refl _)
      rw [hall, HLAW.out.1, HLAW.out.2.1]
      have hlp : lpsN l ≤ n := by rw [← HN.out]; exact lps_le l
      obtain ⟨LP, hLP⟩ : ∃ z, lpsN l = z := ⟨_, rfl⟩
      have HLP := zH hLP
      rw [hLP] at hlp ⊢
      clear hlt hin hall hst hnx hLP i0 hi
      go_upto_region 21 with fail
      go_loopw [10, 12] (fun v10 v12 wq => ∃ j : Nat, j ≤ n ∧ v12 = .int .i64 (j : Int) ∧ v10 = .int .i64 (lpsN (l.take j) : Int) ∧ wq = wr) (fun _ v12 _ => n - (intOf v12).toNat)
      case atStart => exact ⟨0, Nat.zero_le _, rfl, rfl, rfl⟩
      case round =>
        obtain ⟨j, hj, rfl, rfl, rfl⟩ := hrel
        have j0 : (0 : Int) ≤ (j : Int) := Int.natCast_nonneg _
        have hlj : lpsN (l.take j) ≤ 256 := Nat.le_trans (lps_le _) (by rw [List.length_take]; omega)
        by_cases hlt : j < n
        · obtain ⟨d, hd⟩ := get_some HN.out hlt
          obtain ⟨bN, off, xx, rfl, hbN, _, ⟨kv, rfl, _⟩, hxx⟩ := HS.out.at_ hd
          have y0 := (B4.out.cell (p := ⟨bN, off + j * 4, none⟩) hbN).trans (hxx 0 _ rfl)
          have lbN : bN < wr.heap.size := Nat.lt_of_lt_of_le hbN B4.out.size
          have hsn := lps_snoc hd
          have jn : (j : Int) < (n : Int) := by omega
          have jnd : decide (j < n) = true := decide_eq_true hlt
          have HLT := zH hlt
          obtain ⟨k, hk⟩ : ∃ z, d.kind = z := ⟨_, rfl⟩
          rw [hk] at y0 hsn
          obtain ⟨X, hX⟩ : ∃ z, lpsN (l.take j) = z := ⟨_, rfl⟩
          rw [hX] at hlj hsn ⊢
          clear hd hxx hbN hlt hk hX
          by_cases h31 : 31 ≤ k
          · have e31 : decide (k ≥ 31) = true := decide_eq_true h31
            have e31' : decide (31 ≤ k) = true := decide_eq_true h31
            by_cases h34 : k ≤ 34
            · have e34 : decide (k ≤ 34) = true := decide_eq_true h34
              rw [if_pos ⟨h31, h34⟩] at hsn
              have HSN := zH hsn
              clear hsn h31 h34
              go_wp2_with fail
              go_roundw
              case rel => exact ⟨j + 1, HLT.out, by go_num, by rw [HSN.out]; go_num, by first | rfl | trivial⟩
              case measure => simp [intOf]; have := HLT.out; omega
            · have e34 : decide (k ≤ 34) = false := decide_eq_false h34
              rw [if_neg (fun h => h34 h.2)] at hsn
              have HSN := zH hsn
              clear hsn h31 h34
              go_wp2_with fail
              go_roundw
              case rel => exact ⟨j + 1, HLT.out, by go_num, by rw [HSN.out]; rfl, by first | rfl | trivial⟩
              case measure => simp [intOf]; have := HLT.out; omega
          · have e31 : decide (k ≥ 31) = false := decide_eq_false h31
            have e31' : decide (31 ≤ k) = false := decide_eq_false h31
            rw [if_neg (fun h => h31 h.1)] at hsn
            have HSN := zH hsn
            clear hsn h31
            go_wp2_with fail
            go_roundw
            case rel => exact ⟨j + 1, HLT.out, by go_num, by rw [HSN.out]; rfl, by first | rfl | trivial⟩
            case measure => simp [intOf]; have := HLT.out; omega
        · have hjn : j = n := by omega
          have d3 : decide ((j : Int) < (n : Int)) = false := by rw [hjn]; simp
          have d4 : decide (j < n) = false := by rw [hjn]; simp
          have hall : l.take j = l := List.take_of_length_le (by rw [HN.out, hjn]; exact Nat.le_refl _)
          rw [hall, HLP.out]
          have en : ((n : Int) == (n : Int)) = true := by simp
          have el : ((LP : Int) == (LP : Int)) = true := by simp
          clear hlt hjn hall hlj j0 hj
          go_wp2_with fail
          go_ret
          exact ⟨rfl, B4.out⟩
theorem lawSteps {l : List ND} {v : Value} (w : World) (hs : SlR w w.heap.size 4 (ND.Is w w.heap.size) v l) (hok : ∀ d ∈ l, NdOk d) (hv : AllV w) : Calls Tryz.prog 4 #[.agg #[v]] w fun e w' => e = .returned (.bool true) ∧ Below w.heap.size w w' := by
  by_cases hr : rightE l = 0
  · obtain ⟨t, tg, td, ts, hl, _⟩ := right_tree hok hr
    subst hl
    exact steps_tree w hs hv tg td ts
  · exact steps_bad w hs hv hok hr
end Go.Proofs.YtdkoafmgenbkbaaGreatDoor
