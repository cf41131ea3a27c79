/- - -/
import Derived.Test.YtdkoafmgenbkbaaGreatDoorKM9
import Derived.Test.YtdkoafmgenbkbaaGreatDoorKCzC
import Derived.Test.YtdkoafmgenbkbaaGreatDoorKCzP
set_option maxRecDepth 100000
set_option maxHeartbeats 32000000
set_option linter.unusedSimpArgs false
set_option linter.unusedVariables false
namespace Go.Proofs.YtdkoafmgenbkbaaGreatDoor
open Go.RowKit
theorem ins_oks {w : World} {v : Value} {cl : List Ins} {B : Nat} (hs : SlR w B 4 Ins.Is v cl) : ∀ x ∈ cl, x.ok := by
  obtain ⟨a, c, hv, _⟩ := hs.form
  subst hv
  intro x hx
  obtain ⟨i, hi⟩ := List.mem_iff_getElem?.1 hx
  obtain ⟨_, _, _, _, _, _, ⟨_, h⟩, _⟩ := hs.at_ hi
  exact h
theorem text_bytes {c : List Ins} (h : ∀ x ∈ c, x.ok ∧ plainN x = true) : Bytes (textC c) := by
  intro b hb
  obtain ⟨x, hx, hb⟩ := List.mem_flatMap.1 hb
  rcases List.mem_append.1 hb with h1 | h1
  · exact (line_small (h x hx).1 (h x hx).2).2 b h1
  · simp at h1; omega
theorem back_yes {cl : List Ins} {v : Value} (x : ByteArray) (hx : x.size ≤ maxLen) (w : World) (hs : SlR w w.heap.size 4 Ins.Is v cl) (hv : AllV w) (hr : (rightC cl).2 = 0) (hl : (textC cl).length ≤ 1048576) : Calls Tryz.prog 3 #[.agg #[v], .string x] w fun e w' => e = .returned (.bool true) ∧ Below w.heap.size w w' := by
  obtain ⟨a, c, rfl⟩ : ∃ a c, v = .slice a cl.length c := by obtain ⟨a, c, h, _⟩ := hs.form; exact ⟨a, c, h⟩
  obtain ⟨n, hn⟩ : ∃ n, cl.length = n := ⟨_, rfl⟩
  rw [hn] at hs ⊢
  have hb : Below w.heap.size w (w.alloc (.cells #[.slice a n c] 24)) := zB.alloc zL _
  have AW := zH (awake_any (w.alloc (.cells #[.slice a n c] 24)) (hv.below hb))
  have KE : Hid (Blk (w.alloc (.cells #[.slice a n c] 24)) w.heap.size 24 #[.slice a n c]) := zH (Blk.new _ _ _)
  have HB := zH hb
  have HN := zH hn
  have HS := zH hs
  have PRT := zH (fun W (hW : Below w.heap.size w W) => print_any W w hs hW (hv.below hW).lays.words (hv.below hW).lays.vars.1)
  have RGT := zH (fun W (hW : Below w.heap.size w W) => right_code W w hs hW)
  have PAS := zH (fun W (hW : Below w.heap.size w W) => parse_any x hx W (hv.below hW).lays)
  have PR2 := zH (fun (W W0 : World) (v : Value) (d : List Ins) (h : SlR W0 W0.heap.size 4 Ins.Is v d) (h0 : Below w.heap.size w W) (hW : Below W0.heap.size W0 W) => print_any W W0 h hW (hv.below h0).lays.words (hv.below h0).lays.vars.1)
  have RG2 := zH (fun (W W0 : World) (v : Value) (d : List Ins) (h : SlR W0 W0.heap.size 4 Ins.Is v d) (hW : Below W0.heap.size W0 W) => right_code W W0 h hW)
  obtain ⟨D, N, Z, hp⟩ : ∃ D N Z, parseC (bs x) = (D, N, Z) := ⟨_, _, _, rfl⟩
  have HP := zH (parse_back (bs_bytes x) hp)
  unfold ParseK at PAS
  rw [hp] at PAS
  have hok := ins_oks hs
  have hpt := parse_text hok hr hl
  have hby := text_bytes (fun y hy => ⟨hok y hy, right_all hr y hy⟩)
  have hrr : rightC cl = (0, 0) := Prod.ext (right_zero hr) hr
  have hpp : printC cl = (textC cl, 0) := by unfold printC; rw [if_neg (by omega), if_neg (by omega)]
  have PTX := zH (fun W (hW : Below w.heap.size w W) => parse_any (txt (textC cl)) (by rw [txt_size]; unfold maxLen; omega) W (hv.below hW).lays)
  unfold ParseK at PTX
  rw [bs_txt hby, hpt] at PTX
  rw [hrr] at RGT
  rw [hpp] at PRT
  obtain ⟨T, hT⟩ : ∃ T, textC cl = T := ⟨_, rfl⟩
  rw [hT] at PTX PRT
  have g0 : decide ((0 : Int) > (n : Int)) = false := decide_eq_false (by omega)
  have g0' : decide ((n : Int) < 0) = false := decide_eq_false (by omega)
  clear hok hpt hby hrr hpp hT hr hl
  clear hs hv hn hb hx hp
  go_enter Tryz.func3, Tryz.ntmps3
  go_upto_region 8 with (first
    | (go_at_call 7; go_must (refine AW.out.mono ?_); rintro e w1 ⟨rfl, b1⟩
       go_must (have B1 := zH (HB.out.trans (b1.mono HB.out.size)))
       go_must (have K1 := zH (KE.out.below b1 KE.out.lt))
       have e1 : w1.cell? ⟨w.heap.size, 0, none⟩ = some (.slice a n c) := K1.out.cell rfl
       have l1 : w.heap.size < w1.heap.size := K1.out.lt
       clear b1)
    | (have _t := e1; go_at_call 8; go_must (refine (PRT.out w1 B1.out).mono ?_); rintro e w2 ⟨rfl, b2⟩
       have B2 := zH (B1.out.trans (b2.mono B1.out.size))
       have K2 := zH (K1.out.below b2 K1.out.lt)
       have e2 : w2.cell? ⟨w.heap.size, 0, none⟩ = some (.slice a n c) := K2.out.cell rfl
       have l2 : w.heap.size < w2.heap.size := K2.out.lt
       clear b2 e1 l1 _t)
    | (have _t := e2; go_at_call 9; go_must (refine (RGT.out w2 B2.out).mono ?_); rintro e w3 ⟨rfl, b3⟩
       have B3 := zH (B2.out.trans (b3.mono B2.out.size))
       have K3 := zH (K2.out.below b3 K2.out.lt)
       have e3 : w3.cell? ⟨w.heap.size, 0, none⟩ = some (.slice a n c) := K3.out.cell rfl
       have l3 : w.heap.size < w3.heap.size := K3.out.lt
       clear b3 e2 l2 _t)
    | fail)
  go_upto_region 11 with (first
    | (go_at_call 10; go_must (refine (PTX.out w3 B3.out).mono ?_); rintro e w4 ⟨tv, rfl, ho, b4⟩
       obtain ⟨ta, tc, rfl⟩ := ho.form
       rw [HN.out] at ho ⊢
       have ST := zH (ho.read (by decide))
       have B4 := zH ((B3.out.trans (b4.mono B3.out.size)).alloc (by have := B3.out.size; have := b4.size; omega) (.cells #[.slice ta n tc] 24))
       have D4 : Hid (Below w4.heap.size w4 (w4.alloc (.cells #[.slice ta n tc] 24))) := zH (zB.alloc zL _)
       have SC := zH ((HS.out.below (B3.out.trans (b4.mono B3.out.size))).more (Nat.le_trans B3.out.size b4.size))
       have K4 := zH ((K3.out.below b4 K3.out.lt).alloc (.cells #[.slice ta n tc] 24))
       have e4 : (w4.alloc (.cells #[.slice ta n tc] 24)).cell? ⟨w.heap.size, 0, none⟩ = some (.slice a n c) := K4.out.cell rfl
       have f4 : (w4.alloc (.cells #[.slice ta n tc] 24)).cell? ⟨w4.heap.size, 0, none⟩ = some (.slice ta n tc) := (Blk.new w4 24 #[.slice ta n tc]).cell rfl
       have l4 := K4.out.lt
       clear b4 ho e3 l3)
    | (go_at_call 11; go_must (refine (rsame_any _ w4 SC.out ST.out D4.out).mono ?_); rintro e w5 ⟨rfl, b5⟩
       rw [decide_eq_true (rfl : cl = cl)]
       have B5 := zH (B4.out.trans (b5.mono B4.out.size))
       clear b5)
    | fail)
  by_cases hz : Z = 0
  · obtain ⟨rfl, hr, ht, hl⟩ := HP.out.2 hz
    subst hz
    have HRD : Hid (rightC D = (0, 0)) := zH (Prod.ext (right_zero hr) hr)
    have HPD : Hid (printC D = (bs x, 0)) := zH (by unfold printC; rw [if_neg (by omega), if_neg (by rw [ht]; omega), ht])
    have etx : ((txt (bs x)).toList == x.toList) = true := by rw [txt_bs]; simp
    obtain ⟨dn, hdn⟩ : ∃ z, D.length = z := ⟨_, rfl⟩
    have HDN := zH hdn
    have tokR : True := trivial
    clear hr ht hl hdn HP
    go_wp2_with (first
      | (go_at_call 10; go_must (refine (PAS.out w5 B5.out).mono ?_); rintro e w6 ⟨dv, rfl, ho, b6⟩
         go_loud (obtain ⟨da, dc, rfl⟩ := ho.form)
         go_loud (rw [HDN.out] at ho ⊢)
         have SD := zH (ho.read (by decide))
         have B6 := zH ((B5.out.trans (b6.mono B5.out.size)).alloc (by have := B5.out.size; have := b6.size; omega) (.cells #[.slice da dn dc] 24))
         have K6 : Hid (Blk (w6.alloc (.cells #[.slice da dn dc] 24)) w6.heap.size 24 #[.slice da dn dc]) := zH (Blk.new _ _ _)
         have D6 : Hid (Below w6.heap.size w6 (w6.alloc (.cells #[.slice da dn dc] 24))) := zH (zB.alloc zL _)
         have z6 : (w6.alloc (.cells #[.slice da dn dc] 24)).cell? ⟨w6.heap.size, 0, none⟩ = some (.slice da dn dc) := K6.out.cell rfl
         clear ho b6)
      | (have _t := tokR; go_at_call 9; go_must (refine (RG2.out _ w6 _ _ SD.out D6.out).mono ?_); clear tokR _t; rintro e w7 ⟨rfl, b7⟩
         rw [HRD.out]
         have B7 := zH (B6.out.trans (b7.mono B6.out.size))
         have D7 := zH (D6.out.trans (b7.mono D6.out.size))
         have K7 := zH (K6.out.below b7 K6.out.lt)
         have z7 : w7.cell? ⟨w6.heap.size, 0, none⟩ = some (.slice da dn dc) := K7.out.cell rfl
         have l7 : w6.heap.size < w7.heap.size := K7.out.lt
         clear b7 z6)
      | (have _t := z7; go_at_call 8; go_must (refine (PR2.out _ w6 _ _ SD.out B7.out D7.out).mono ?_); rintro e w8 ⟨rfl, b8⟩
         rw [HPD.out]
         have B8 := zH (B7.out.trans (b8.mono B7.out.size))
         clear b8 _t)
      | fail)
    go_ret
    exact ⟨rfl, B8.out⟩
  · have hd0 := HP.out.1 hz
    subst hd0
    have zne : ((Z : Int) != 0) = true := by rw [bne_iff_ne]; omega
    have n0 : decide ((N : Int) ≥ 0) = true := decide_eq_true (by omega)
    have n0' : decide (0 ≤ (N : Int)) = true := decide_eq_true (by omega)
    obtain ⟨dn, hdn⟩ : ∃ z, ([] : List Ins).length = z := ⟨_, rfl⟩
    have HDN := zH hdn
    have hdn0 : dn = 0 := hdn.symm
    subst hdn0
    clear hz HP hdn
    go_wp2_with (first
      | (go_at_call 10; go_must (refine (PAS.out w5 B5.out).mono ?_); rintro e w6 ⟨dv, rfl, ho, b6⟩
         go_loud (obtain ⟨da, dc, rfl⟩ := ho.form)
         go_loud (rw [HDN.out] at ho ⊢)
         have SD := zH (ho.read (by decide))
         have B6 := zH ((B5.out.trans (b6.mono B5.out.size)).alloc (by have := B5.out.size; have := b6.size; omega) (.cells #[.slice da 0 dc] 24))
         have K6 : Hid (Blk (w6.alloc (.cells #[.slice da 0 dc] 24)) w6.heap.size 24 #[.slice da 0 dc]) := zH (Blk.new _ _ _)
         have D6 : Hid (Below w6.heap.size w6 (w6.alloc (.cells #[.slice da 0 dc] 24))) := zH (zB.alloc zL _)
         have z6 : (w6.alloc (.cells #[.slice da 0 dc] 24)).cell? ⟨w6.heap.size, 0, none⟩ = some (.slice da 0 dc) := K6.out.cell rfl
         clear ho b6)
      | fail)
    go_ret
    exact ⟨rfl, B6.out⟩
theorem back_long {cl : List Ins} {v : Value} (x : ByteArray) (hx : x.size ≤ maxLen) (w : World) (hs : SlR w w.heap.size 4 Ins.Is v cl) (hv : AllV w) (hr : (rightC cl).2 = 0) (hl : ¬ (textC cl).length ≤ 1048576) : Calls Tryz.prog 3 #[.agg #[v], .string x] w fun e w' => e = .returned (.bool true) ∧ Below w.heap.size w w' := by
  obtain ⟨a, c, rfl⟩ : ∃ a c, v = .slice a cl.length c := by obtain ⟨a, c, h, _⟩ := hs.form; exact ⟨a, c, h⟩
  obtain ⟨n, hn⟩ : ∃ n, cl.length = n := ⟨_, rfl⟩
  rw [hn] at hs ⊢
  have hb : Below w.heap.size w (w.alloc (.cells #[.slice a n c] 24)) := zB.alloc zL _
  have AW := zH (awake_any (w.alloc (.cells #[.slice a n c] 24)) (hv.below hb))
  have KE : Hid (Blk (w.alloc (.cells #[.slice a n c] 24)) w.heap.size 24 #[.slice a n c]) := zH (Blk.new _ _ _)
  have HB := zH hb
  have HN := zH hn
  have HS := zH hs
  have PRT := zH (fun W (hW : Below w.heap.size w W) => print_any W w hs hW (hv.below hW).lays.words (hv.below hW).lays.vars.1)
  have RGT := zH (fun W (hW : Below w.heap.size w W) => right_code W w hs hW)
  have PAS := zH (fun W (hW : Below w.heap.size w W) => parse_any x hx W (hv.below hW).lays)
  have PR2 := zH (fun (W W0 : World) (v : Value) (d : List Ins) (h : SlR W0 W0.heap.size 4 Ins.Is v d) (h0 : Below w.heap.size w W) (hW : Below W0.heap.size W0 W) => print_any W W0 h hW (hv.below h0).lays.words (hv.below h0).lays.vars.1)
  have RG2 := zH (fun (W W0 : World) (v : Value) (d : List Ins) (h : SlR W0 W0.heap.size 4 Ins.Is v d) (hW : Below W0.heap.size W0 W) => right_code W W0 h hW)
  obtain ⟨D, N, Z, hp⟩ : ∃ D N Z, parseC (bs x) = (D, N, Z) := ⟨_, _, _, rfl⟩
  have HP := zH (parse_back (bs_bytes x) hp)
  unfold ParseK at PAS
  rw [hp] at PAS
  have hrr : rightC cl = (0, 0) := Prod.ext (right_zero hr) hr
  have hpp : printC cl = ([], 3) := by unfold printC; rw [if_neg (by omega), if_pos (by omega)]
  rw [hrr] at RGT
  rw [hpp, show txt [] = (⟨#[]⟩ : ByteArray) from rfl] at PRT
  have g0 : decide ((0 : Int) > (n : Int)) = false := decide_eq_false (by omega)
  have g0' : decide ((n : Int) < 0) = false := decide_eq_false (by omega)
  clear hrr hpp hr hl
  clear hs hv hn hb hx hp
  go_enter Tryz.func3, Tryz.ntmps3
  go_upto_region 11 with (first
    | (go_at_call 7; go_must (refine AW.out.mono ?_); rintro e w1 ⟨rfl, b1⟩
       go_must (have B1 := zH (HB.out.trans (b1.mono HB.out.size)))
       go_must (have K1 := zH (KE.out.below b1 KE.out.lt))
       have e1 : w1.cell? ⟨w.heap.size, 0, none⟩ = some (.slice a n c) := K1.out.cell rfl
       have l1 : w.heap.size < w1.heap.size := K1.out.lt
       clear b1)
    | (have _t := e1; go_at_call 8; go_must (refine (PRT.out w1 B1.out).mono ?_); rintro e w2 ⟨rfl, b2⟩
       have B2 := zH (B1.out.trans (b2.mono B1.out.size))
       have K2 := zH (K1.out.below b2 K1.out.lt)
       have e2 : w2.cell? ⟨w.heap.size, 0, none⟩ = some (.slice a n c) := K2.out.cell rfl
       have l2 : w.heap.size < w2.heap.size := K2.out.lt
       clear b2 e1 l1 _t)
    | (have _t := e2; go_at_call 9; go_must (refine (RGT.out w2 B2.out).mono ?_); rintro e w3 ⟨rfl, b3⟩
       have B3 := zH (B2.out.trans (b3.mono B2.out.size))
       have K3 := zH (K2.out.below b3 K2.out.lt)
       have e3 : w3.cell? ⟨w.heap.size, 0, none⟩ = some (.slice a n c) := K3.out.cell rfl
       have l3 : w.heap.size < w3.heap.size := K3.out.lt
       clear b3 e2 l2 _t)
    | fail)
  by_cases hz : Z = 0
  · obtain ⟨rfl, hr, ht, hl⟩ := HP.out.2 hz
    subst hz
    have HRD : Hid (rightC D = (0, 0)) := zH (Prod.ext (right_zero hr) hr)
    have HPD : Hid (printC D = (bs x, 0)) := zH (by unfold printC; rw [if_neg (by omega), if_neg (by rw [ht]; omega), ht])
    have etx : ((txt (bs x)).toList == x.toList) = true := by rw [txt_bs]; simp
    obtain ⟨dn, hdn⟩ : ∃ z, D.length = z := ⟨_, rfl⟩
    have HDN := zH hdn
    have tokR : True := trivial
    clear hr ht hl hdn HP
    go_wp2_with (first
      | (go_at_call 10; go_must (refine (PAS.out w3 B3.out).mono ?_); rintro e w6 ⟨dv, rfl, ho, b6⟩
         go_loud (obtain ⟨da, dc, rfl⟩ := ho.form)
         go_loud (rw [HDN.out] at ho ⊢)
         have SD := zH (ho.read (by decide))
         have B6 := zH ((B3.out.trans (b6.mono B3.out.size)).alloc (by have := B3.out.size; have := b6.size; omega) (.cells #[.slice da dn dc] 24))
         have K6 : Hid (Blk (w6.alloc (.cells #[.slice da dn dc] 24)) w6.heap.size 24 #[.slice da dn dc]) := zH (Blk.new _ _ _)
         have D6 : Hid (Below w6.heap.size w6 (w6.alloc (.cells #[.slice da dn dc] 24))) := zH (zB.alloc zL _)
         have z6 : (w6.alloc (.cells #[.slice da dn dc] 24)).cell? ⟨w6.heap.size, 0, none⟩ = some (.slice da dn dc) := K6.out.cell rfl
         clear ho b6)
      | (have _t := tokR; go_at_call 9; go_must (refine (RG2.out _ w6 _ _ SD.out D6.out).mono ?_); clear tokR _t; rintro e w7 ⟨rfl, b7⟩
         rw [HRD.out]
         have B7 := zH (B6.out.trans (b7.mono B6.out.size))
         have D7 := zH (D6.out.trans (b7.mono D6.out.size))
         have K7 := zH (K6.out.below b7 K6.out.lt)
         have z7 : w7.cell? ⟨w6.heap.size, 0, none⟩ = some (.slice da dn dc) := K7.out.cell rfl
         have l7 : w6.heap.size < w7.heap.size := K7.out.lt
         clear b7 z6)
      | (have _t := z7; go_at_call 8; go_must (refine (PR2.out _ w6 _ _ SD.out B7.out D7.out).mono ?_); rintro e w8 ⟨rfl, b8⟩
         rw [HPD.out]
         have B8 := zH (B7.out.trans (b8.mono B7.out.size))
         clear b8 _t)
      | fail)
    go_ret
    exact ⟨rfl, B8.out⟩
  · have hd0 := HP.out.1 hz
    subst hd0
    have zne : ((Z : Int) != 0) = true := by rw [bne_iff_ne]; omega
    have n0 : decide ((N : Int) ≥ 0) = true := decide_eq_true (by omega)
    have n0' : decide (0 ≤ (N : Int)) = true := decide_eq_true (by omega)
    obtain ⟨dn, hdn⟩ : ∃ z, ([] : List Ins).length = z := ⟨_, rfl⟩
    have HDN := zH hdn
    have hdn0 : dn = 0 := hdn.symm
    subst hdn0
    clear hz HP hdn
    go_wp2_with (first
      | (go_at_call 10; go_must (refine (PAS.out w3 B3.out).mono ?_); rintro e w6 ⟨dv, rfl, ho, b6⟩
         go_loud (obtain ⟨da, dc, rfl⟩ := ho.form)
         go_loud (rw [HDN.out] at ho ⊢)
         have SD := zH (ho.read (by decide))
         have B6 := zH ((B3.out.trans (b6.mono B3.out.size)).alloc (by have := B3.out.size; have := b6.size; omega) (.cells #[.slice da 0 dc] 24))
         have K6 : Hid (Blk (w6.alloc (.cells #[.slice da 0 dc] 24)) w6.heap.size 24 #[.slice da 0 dc]) := zH (Blk.new _ _ _)
         have D6 : Hid (Below w6.heap.size w6 (w6.alloc (.cells #[.slice da 0 dc] 24))) := zH (zB.alloc zL _)
         have z6 : (w6.alloc (.cells #[.slice da 0 dc] 24)).cell? ⟨w6.heap.size, 0, none⟩ = some (.slice da 0 dc) := K6.out.cell rfl
         clear ho b6)
      | fail)
    go_ret
    exact ⟨rfl, B6.out⟩
theorem back_no {cl : List Ins} {v : Value} (x : ByteArray) (hx : x.size ≤ maxLen) (w : World) (hs : SlR w w.heap.size 4 Ins.Is v cl) (hv : AllV w) (hr : (rightC cl).2 ≠ 0) : Calls Tryz.prog 3 #[.agg #[v], .string x] w fun e w' => e = .returned (.bool true) ∧ Below w.heap.size w w' := by
  obtain ⟨a, c, rfl⟩ : ∃ a c, v = .slice a cl.length c := by obtain ⟨a, c, h, _⟩ := hs.form; exact ⟨a, c, h⟩
  obtain ⟨n, hn⟩ : ∃ n, cl.length = n := ⟨_, rfl⟩
  rw [hn] at hs ⊢
  have hb : Below w.heap.size w (w.alloc (.cells #[.slice a n c] 24)) := zB.alloc zL _
  have AW := zH (awake_any (w.alloc (.cells #[.slice a n c] 24)) (hv.below hb))
  have KE : Hid (Blk (w.alloc (.cells #[.slice a n c] 24)) w.heap.size 24 #[.slice a n c]) := zH (Blk.new _ _ _)
  have HB := zH hb
  have HN := zH hn
  have HS := zH hs
  have PRT := zH (fun W (hW : Below w.heap.size w W) => print_any W w hs hW (hv.below hW).lays.words (hv.below hW).lays.vars.1)
  have RGT := zH (fun W (hW : Below w.heap.size w W) => right_code W w hs hW)
  have PAS := zH (fun W (hW : Below w.heap.size w W) => parse_any x hx W (hv.below hW).lays)
  have PR2 := zH (fun (W W0 : World) (v : Value) (d : List Ins) (h : SlR W0 W0.heap.size 4 Ins.Is v d) (h0 : Below w.heap.size w W) (hW : Below W0.heap.size W0 W) => print_any W W0 h hW (hv.below h0).lays.words (hv.below h0).lays.vars.1)
  have RG2 := zH (fun (W W0 : World) (v : Value) (d : List Ins) (h : SlR W0 W0.heap.size 4 Ins.Is v d) (hW : Below W0.heap.size W0 W) => right_code W W0 h hW)
  obtain ⟨D, N, Z, hp⟩ : ∃ D N Z, parseC (bs x) = (D, N, Z) := ⟨_, _, _, rfl⟩
  have HP := zH (parse_back (bs_bytes x) hp)
  unfold ParseK at PAS
  rw [hp] at PAS
  obtain ⟨at_, r, hrr⟩ : ∃ i r, rightC cl = (i, r) := ⟨_, _, rfl⟩
  have hpp : printC cl = ([], r) := by unfold printC; rw [if_pos hr, hrr]
  have hin := right_in cl
  rw [hrr] at RGT hr hin
  rw [hn] at hin
  simp only at hr hin
  rw [hpp, show txt [] = (⟨#[]⟩ : ByteArray) from rfl] at PRT
  have g0 : decide ((at_ : Int) > (n : Int)) = false := decide_eq_false (by omega)
  have g0' : decide ((n : Int) < (at_ : Int)) = false := decide_eq_false (by omega)
  have g1 : decide ((at_ : Int) < 0) = false := decide_eq_false (by omega)
  have r0 : ((r : Int) != 0) = true := by rw [bne_iff_ne]; omega
  have r1 : ((r : Int) == 0) = false := by simp; omega
  have rr : ((r : Int) != (r : Int)) = false := by simp
  have g0n : decide (n < at_) = false := decide_eq_false (by omega)
  have r0n : (r != 0) = true := by rw [bne_iff_ne]; omega
  have r1n : (r == 0) = false := by simp; omega
  clear hrr hpp hr hin
  clear hs hv hn hb hx hp
  go_enter Tryz.func3, Tryz.ntmps3
  go_upto_region 11 with (first
    | (go_at_call 7; go_must (refine AW.out.mono ?_); rintro e w1 ⟨rfl, b1⟩
       go_must (have B1 := zH (HB.out.trans (b1.mono HB.out.size)))
       go_must (have K1 := zH (KE.out.below b1 KE.out.lt))
       have e1 : w1.cell? ⟨w.heap.size, 0, none⟩ = some (.slice a n c) := K1.out.cell rfl
       have l1 : w.heap.size < w1.heap.size := K1.out.lt
       clear b1)
    | (have _t := e1; go_at_call 8; go_must (refine (PRT.out w1 B1.out).mono ?_); rintro e w2 ⟨rfl, b2⟩
       have B2 := zH (B1.out.trans (b2.mono B1.out.size))
       have K2 := zH (K1.out.below b2 K1.out.lt)
       have e2 : w2.cell? ⟨w.heap.size, 0, none⟩ = some (.slice a n c) := K2.out.cell rfl
       have l2 : w.heap.size < w2.heap.size := K2.out.lt
       clear b2 e1 l1 _t)
    | (have _t := e2; go_at_call 9; go_must (refine (RGT.out w2 B2.out).mono ?_); rintro e w3 ⟨rfl, b3⟩
       have B3 := zH (B2.out.trans (b3.mono B2.out.size))
       have K3 := zH (K2.out.below b3 K2.out.lt)
       have e3 : w3.cell? ⟨w.heap.size, 0, none⟩ = some (.slice a n c) := K3.out.cell rfl
       have l3 : w.heap.size < w3.heap.size := K3.out.lt
       clear b3 e2 l2 _t)
    | fail)
  by_cases hz : Z = 0
  · obtain ⟨rfl, hr, ht, hl⟩ := HP.out.2 hz
    subst hz
    have HRD : Hid (rightC D = (0, 0)) := zH (Prod.ext (right_zero hr) hr)
    have HPD : Hid (printC D = (bs x, 0)) := zH (by unfold printC; rw [if_neg (by omega), if_neg (by rw [ht]; omega), ht])
    have etx : ((txt (bs x)).toList == x.toList) = true := by rw [txt_bs]; simp
    obtain ⟨dn, hdn⟩ : ∃ z, D.length = z := ⟨_, rfl⟩
    have HDN := zH hdn
    have tokR : True := trivial
    clear hr ht hl hdn HP
    go_wp2_with (first
      | (go_at_call 10; go_must (refine (PAS.out w3 B3.out).mono ?_); rintro e w6 ⟨dv, rfl, ho, b6⟩
         go_loud (obtain ⟨da, dc, rfl⟩ := ho.form)
         go_loud (rw [HDN.out] at ho ⊢)
         have SD := zH (ho.read (by decide))
         have B6 := zH ((B3.out.trans (b6.mono B3.out.size)).alloc (by have := B3.out.size; have := b6.size; omega) (.cells #[.slice da dn dc] 24))
         have K6 : Hid (Blk (w6.alloc (.cells #[.slice da dn dc] 24)) w6.heap.size 24 #[.slice da dn dc]) := zH (Blk.new _ _ _)
         have D6 : Hid (Below w6.heap.size w6 (w6.alloc (.cells #[.slice da dn dc] 24))) := zH (zB.alloc zL _)
         have z6 : (w6.alloc (.cells #[.slice da dn dc] 24)).cell? ⟨w6.heap.size, 0, none⟩ = some (.slice da dn dc) := K6.out.cell rfl
         clear ho b6)
      | (have _t := tokR; go_at_call 9; go_must (refine (RG2.out _ w6 _ _ SD.out D6.out).mono ?_); clear tokR _t; rintro e w7 ⟨rfl, b7⟩
         rw [HRD.out]
         have B7 := zH (B6.out.trans (b7.mono B6.out.size))
         have D7 := zH (D6.out.trans (b7.mono D6.out.size))
         have K7 := zH (K6.out.below b7 K6.out.lt)
         have z7 : w7.cell? ⟨w6.heap.size, 0, none⟩ = some (.slice da dn dc) := K7.out.cell rfl
         have l7 : w6.heap.size < w7.heap.size := K7.out.lt
         clear b7 z6)
      | (have _t := z7; go_at_call 8; go_must (refine (PR2.out _ w6 _ _ SD.out B7.out D7.out).mono ?_); rintro e w8 ⟨rfl, b8⟩
         rw [HPD.out]
         have B8 := zH (B7.out.trans (b8.mono B7.out.size))
         clear b8 _t)
      | fail)
    go_ret
    exact ⟨rfl, B8.out⟩
  · have hd0 := HP.out.1 hz
    subst hd0
    have zne : ((Z : Int) != 0) = true := by rw [bne_iff_ne]; omega
    have n0 : decide ((N : Int) ≥ 0) = true := decide_eq_true (by omega)
    have n0' : decide (0 ≤ (N : Int)) = true := decide_eq_true (by omega)
    obtain ⟨dn, hdn⟩ : ∃ z, ([] : List Ins).length = z := ⟨_, rfl⟩
    have HDN := zH hdn
    have hdn0 : dn = 0 := hdn.symm
    subst hdn0
    clear hz HP hdn
    go_wp2_with (first
      | (go_at_call 10; go_must (refine (PAS.out w3 B3.out).mono ?_); rintro e w6 ⟨dv, rfl, ho, b6⟩
         go_loud (obtain ⟨da, dc, rfl⟩ := ho.form)
         go_loud (rw [HDN.out] at ho ⊢)
         have SD := zH (ho.read (by decide))
         have B6 := zH ((B3.out.trans (b6.mono B3.out.size)).alloc (by have := B3.out.size; have := b6.size; omega) (.cells #[.slice da 0 dc] 24))
         have K6 : Hid (Blk (w6.alloc (.cells #[.slice da 0 dc] 24)) w6.heap.size 24 #[.slice da 0 dc]) := zH (Blk.new _ _ _)
         have D6 : Hid (Below w6.heap.size w6 (w6.alloc (.cells #[.slice da 0 dc] 24))) := zH (zB.alloc zL _)
         have z6 : (w6.alloc (.cells #[.slice da 0 dc] 24)).cell? ⟨w6.heap.size, 0, none⟩ = some (.slice da 0 dc) := K6.out.cell rfl
         clear ho b6)
      | fail)
    go_ret
    exact ⟨rfl, B6.out⟩
theorem lawBack {cl : List Ins} {v : Value} (x : ByteArray) (hx : x.size ≤ maxLen) (w : World) (hs : SlR w w.heap.size 4 Ins.Is v cl) (hv : AllV w) : Calls Tryz.prog 3 #[.agg #[v], .string x] w fun e w' => e = .returned (.bool true) ∧ Below w.heap.size w w' := by
  by_cases hr : (rightC cl).2 = 0
  · by_cases hl : (textC cl).length ≤ 1048576
    · exact back_yes x hx w hs hv hr hl
    · exact back_long x hx w hs hv hr hl
  · exact back_no x hx w hs hv hr
end Go.Proofs.YtdkoafmgenbkbaaGreatDoor
