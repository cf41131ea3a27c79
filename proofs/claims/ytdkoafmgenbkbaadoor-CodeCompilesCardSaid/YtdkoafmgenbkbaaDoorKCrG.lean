/- Taken over out of another chapter (its text CrG): what is needed here. -/
import Derived.Test.YtdkoafmgenbkbaaDoorProg
import Derived.Test.YtdkoafmgenbkbaaDoorShelf
import Derived.Test.YtdkoafmgenbkbaaDoorCards
import Derived.Test.YtdkoafmgenbkbaaDoorTie
import Derived.Test.YtdkoafmgenbkbaaDoorKM1
import Derived.Test.YtdkoafmgenbkbaaDoorKM4
import Derived.Test.YtdkoafmgenbkbaaDoorKM2
import Derived.Test.YtdkoafmgenbkbaaDoorKM3
import Derived.Test.YtdkoafmgenbkbaaDoorKCpR
import Derived.Test.YtdkoafmgenbkbaaDoorKM5
import Derived.Below
import Derived.BigQuiet
import Derived.BigRegion
import Derived.Deep.AppendLies
import Derived.Deep.CutBlock
import Derived.Deep.CutRange
import Derived.Deep.Draws
import Derived.Deep.Fields
import Derived.Deep.LoopGhost
import Derived.Deep.QuietTactic
import Derived.Deep.RegionHeld2
import Derived.Deep.RegionHeld3
import Derived.Deep.RegionLaw
import Derived.Deep.Slices
import Derived.Defers
import Derived.IntWalk
import Derived.Laws.BytesString
import Derived.Laws.Cover1
import Derived.Laws.EntriesVeiled
import Derived.Laws.IdiomStrings
import Derived.Laws.MakeOwn
import Derived.Laws.Pointers
import Derived.Laws.Rows
import Derived.Lib.AppendStr
import Derived.Lib.Builder
import Derived.Lib.CutLaws
import Derived.Lib.FrozenHead
import Derived.Lib.Hide
import Derived.Lib.ItoaNum
import Derived.Lib.ParseIntB
import Derived.Lib.SliceRun
import Derived.Lib.SlicesS
import Derived.Maps.AppendAt
import Derived.Orders
import Derived.Outline
import Derived.OwnWalk
import Derived.ProofKit
import Derived.Recover
import Derived.RegionTactic
import Derived.StillTailTactics
import Derived.Tactics
import Derived.Tactics2
import Derived.WalkKit
import Derived.WalkMore
import Derived.WalkSmall
import Derived.WalkSpells
namespace Go.Proofs.YtdkoafmgenbkbaaDoor
set_option linter.unusedSimpArgs false
set_option linter.unusedVariables false
open Go.RowKit
set_option maxRecDepth 100000 in
set_option maxHeartbeats 8000000 in
theorem rcode_one {l : List ND} {lv : Value} {W0 : World} {f k p : Nat} {s : List Nat} {n m : Int} {ta : Tr} {vs : List (List Nat)} {W : World} (H : RPre l lv W0 (f + 1) (.node k s n [ta]) p vs m W) (ih : RCodeIs l lv W0 f) (hk : k = 11 ∨ (14 ≤ k ∧ k ≤ 19) ∨ k = 29) : Calls Tryd.prog 30 #[.agg #[lv], .int .i64 (p : Int), .int .i64 m] W (RCodeK W (cR (f + 1) (.node k s n [ta]) vs m)) := by
  obtain ⟨hd, hks⟩ := stands_node H.st
  obtain ⟨la, lc, rfl, _, _⟩ := H.hs.form
  have hpl := (List.getElem?_eq_some_iff.1 hd).1
  obtain ⟨nl, hnl⟩ : ∃ z, l.length = z := ⟨_, rfl⟩
  rw [hnl] at H hpl ⊢
  try rw [hnl] at ih
  have hB6 := H.hw.alloc H.hw.size (.cells #[.slice la nl lc] 38)
  have hhs := H.hs
  obtain ⟨b, off, x, rfl, hbB, hxl, ⟨kv, rfl, hkv⟩, hx⟩ := (hhs.below hB6).at_ hd
  obtain ⟨ka, kc, rfl, _, _⟩ := hkv.form
  simp only [List.length_map, places_len] at hkv hx
  simp only [List.length_cons, List.length_nil, Nat.zero_add, Nat.reduceAdd] at hkv hx
  have x0 := hx 0 _ rfl
  have x1 := hx 1 _ rfl
  have x2 := hx 2 _ rfl
  have x3 := hx 3 _ rfl
  simp only [Nat.add_zero] at x0
  have p0 : (0 : Int) ≤ (p : Int) := Int.natCast_nonneg _
  have p1 : (p : Int) < (nl : Int) := by omega
  have HH := Lib.hid H
  have HNL := Lib.hid hnl
  have HKV := Lib.hid hkv
  have m1 := H.m1
  have m2 : m ≤ 1000 := by have := H.mf; omega
  obtain ⟨jI, hi, hz, hsz, hby⟩ := info_parts info_Ins
  have I := Lib.hid (And.intro hi (And.intro hz (And.intro hsz hby)))
  clear hi hz hsz hby H hd hkv hx hxl hks hnl hhs hB6
  go_enter Tryd.func30, Tryd.ntmps30
  go_upto_region 1 with fail
  have e0 : (W.alloc (.cells #[(.slice (some ⟨b, off, none⟩) nl lc)] 38)).cell? ⟨W.heap.size, 0, none⟩ = some (.slice (some ⟨b, off, none⟩) nl lc) := (Blk.new W 38 #[(.slice (some ⟨b, off, none⟩) nl lc)]).cell rfl
  have lw0 : W.heap.size < (W.alloc (.cells #[(.slice (some ⟨b, off, none⟩) nl lc)] 38)).heap.size := (Blk.new W 38 #[(.slice (some ⟨b, off, none⟩) nl lc)]).lt
  generalize hW1 : W.alloc (.cells #[(.slice (some ⟨b, off, none⟩) nl lc)] 38) = W1 at *
  have HW1 := Lib.hid hW1
  clear hW1
  go_upto_region 4 with (first
    | (go_at_call 55; go_must (refine (rins_step _).mono ?_); rintro e w2 ⟨rfl, hb⟩; go_must (have HB := Lib.hid (CSt.make HW1.out.symm hb)); clear hb)
    | fail)
  clear x0 x1 x2 x3 e0 lw0
  have CS := Lib.hid (HB.out.alloc (.cells #[.int .i64 1, .int .i64 m, .int .i64 0, .string ⟨#[]⟩] 46))
  have SK := Lib.hid (Blk.new w2 46 #[.int .i64 1, .int .i64 m, .int .i64 0, .string ⟨#[]⟩])
  generalize hW3 : w2.alloc (.cells #[.int .i64 1, .int .i64 m, .int .i64 0, .string ⟨#[]⟩] 46) = W3 at *
  obtain ⟨be, hbe⟩ : ∃ z, W.heap.size = z := ⟨_, rfl⟩
  obtain ⟨bx, hbx⟩ : ∃ z, W1.heap.size = z := ⟨_, rfl⟩
  obtain ⟨bs, hbs⟩ : ∃ z, w2.heap.size = z := ⟨_, rfl⟩
  rw [hbe] at CS
  rw [hbx, hbs] at CS
  rw [hbs] at SK
  first | rw [hbe, hbx, hbs] | rw [hbx, hbe, hbs]
  clear HB hW3 hbx hbs HW1
  have e0 : (W3).cell? ⟨be, 0, none⟩ = some (.slice (some ⟨b, off, none⟩) nl lc) := CS.out.eb.cell rfl
  have x0 : (W3).cell? ⟨bx, 0, none⟩ = some (.int .i64 (k : Int)) := CS.out.xb.cell rfl
  have x1 : (W3).cell? ⟨bx, 1, none⟩ = some (.string (txt s)) := CS.out.xb.cell rfl
  have x2 : (W3).cell? ⟨bx, 2, none⟩ = some (.int .i64 n) := CS.out.xb.cell rfl
  have x3 : (W3).cell? ⟨bx, 3, none⟩ = some (.slice ka 1 kc) := CS.out.xb.cell rfl
  have le : be < (W3).heap.size := Nat.lt_of_lt_of_le CS.out.le CS.out.lB
  have lx : bx < (W3).heap.size := Nat.lt_of_lt_of_le CS.out.lx CS.out.lB
  have HSZ : Hid (1 + sizeL [ta] ≤ 256) := Lib.hid (by have h1 := stands_size HH.out.st; have h2 := HH.out.hl; have := HNL.out; simp only [Tr.size] at h1; omega)
  obtain ⟨qta, sta, uta, eta⟩ := rkid HH.out.st HH.out.un (j := 0) (a := ta) rfl
  rw [if_neg (by omega)] at uta
  have Sta := Lib.hid sta
  have Vta := Lib.hid uta
  have Eta := Lib.hid eta
  clear sta uta eta
  obtain ⟨kb, ko, rfl⟩ := kid_form HKV.out (stands_node HH.out.st).2 (j := 0) (t := ta) rfl
  have wr1 : IntKind.i64.wrap (m + 1) = m + 1 := by rw [IntKind.wrap_i64]; omega
  have hs0 : bs ≤ W3.heap.size := CS.out.lB
  have hwl : W.heap.size ≤ bs := CS.out.wl
  obtain ⟨oA, hoA⟩ : ∃ z, cR f ta vs (m + 1) = z := ⟨_, rfl⟩
  have HOA := Lib.hid hoA
  have OPSA : Hid (∀ y ∈ oA, (1 ≤ y.op ∧ y.op ≤ 40) ∧ -1000000 ≤ y.arg ∧ y.arg ≤ 1000000) := Lib.hid (by rw [← hoA]; exact rcode_ops HH.out (j := 0) rfl (by simp) (by omega) (by omega))
  clear hoA
  have hcr : cR (f + 1) (.node k s n [ta]) vs m = oA ++ [⟨sameN k, 0, 0, txt s⟩] := by rw [← HOA.out]; rfl
  have hop : opR (wordK k) = sameN k := by rw [opR_wordK (by omega)]; unfold opK; rw [if_neg (by omega)]
  have ek8 : ((k : Int) == 8) = false := by rw [beq_eq_false_iff_ne]; omega
  have ek9 : ((k : Int) == 9) = false := by rw [beq_eq_false_iff_ne]; omega
  have ek10 : ((k : Int) == 10) = false := by rw [beq_eq_false_iff_ne]; omega
  have ek12 : ((k : Int) == 12) = false := by rw [beq_eq_false_iff_ne]; omega
  have ek13 : ((k : Int) == 13) = false := by rw [beq_eq_false_iff_ne]; omega
  have ek27 : ((k : Int) == 27) = false := by rw [beq_eq_false_iff_ne]; omega
  have ek28 : ((k : Int) == 28) = false := by rw [beq_eq_false_iff_ne]; omega
  have ek30 : ((k : Int) == 30) = false := by rw [beq_eq_false_iff_ne]; omega
  have hlk : decide (31 ≤ (k : Int) ∧ (k : Int) ≤ 34) = false := by simp; try omega
  have LK := Lib.hid (rloop_any (k : Int))
  rw [hlk] at LK
  clear hlk
  have WK : Hid (∀ w, Calls Tryd.prog 56 #[.int .i64 (k : Int)] w fun e w' => e = .returned (.string (wordK k)) ∧ Quiet w w') := Lib.hid (fun w => rkind_any k (by omega) w)
  obtain ⟨wk, hwk⟩ : ∃ z, wordK k = z := ⟨_, rfl⟩
  rw [hwk] at WK hop
  have IK := Lib.hid (rins_any wk)
  rw [hop] at IK
  obtain ⟨op0, hop0⟩ : ∃ z, sameN k = z := ⟨_, rfl⟩
  have hsm : -9223372036854775808 ≤ op0 ∧ op0 ≤ 9223372036854775807 := by rw [← hop0]; exact sameN_rng (by omega)
  obtain ⟨hsm1, hsm2⟩ := hsm
  rw [hop0] at IK hcr
  have HCR := Lib.hid hcr
  clear hwk hop hop0 hcr
  have HND := Lib.hid HH.out.good.1
  clear e0 x0 x1 x2 x3 le lx
  have e0 : (W3).cell? ⟨be, 0, none⟩ = some (.slice (some ⟨b, off, none⟩) nl lc) := CS.out.eb.cell rfl
  have x0 : (W3).cell? ⟨bx, 0, none⟩ = some (.int .i64 (k : Int)) := CS.out.xb.cell rfl
  have x1 : (W3).cell? ⟨bx, 1, none⟩ = some (.string (txt s)) := CS.out.xb.cell rfl
  have x2 : (W3).cell? ⟨bx, 2, none⟩ = some (.int .i64 n) := CS.out.xb.cell rfl
  have x3 : (W3).cell? ⟨bx, 3, none⟩ = some (.slice (some ⟨kb, ko, none⟩) 1 kc) := CS.out.xb.cell rfl
  have le : be < (W3).heap.size := Nat.lt_of_lt_of_le CS.out.le CS.out.lB
  have lx : bx < (W3).heap.size := Nat.lt_of_lt_of_le CS.out.lx CS.out.lB
  have k0 : (W3).cell? ⟨kb, ko, none⟩ = some (.int .i64 (qta : Int)) := rkid_cell (j := 0) HKV.out Eta.out (HH.out.hw.trans (CS.out.bel.mono HH.out.hw.size))
  go_upto_region 20 with fail
  go_still_tail 7, (by kernel_rfl)
  change wpList _ _ _ _ _ W3.drew
  have CS1 := Lib.hid (CS.out.drew)
  have hsW4 : W3.heap.size ≤ W3.drew.heap.size := Nat.le_refl _
  generalize W3.drew = W4 at *
  clear e0 x0 x1 x2 x3 le lx k0
  have e0 : (W4).cell? ⟨be, 0, none⟩ = some (.slice (some ⟨b, off, none⟩) nl lc) := CS1.out.eb.cell rfl
  have x0 : (W4).cell? ⟨bx, 0, none⟩ = some (.int .i64 (k : Int)) := CS1.out.xb.cell rfl
  have x1 : (W4).cell? ⟨bx, 1, none⟩ = some (.string (txt s)) := CS1.out.xb.cell rfl
  have x2 : (W4).cell? ⟨bx, 2, none⟩ = some (.int .i64 n) := CS1.out.xb.cell rfl
  have x3 : (W4).cell? ⟨bx, 3, none⟩ = some (.slice (some ⟨kb, ko, none⟩) 1 kc) := CS1.out.xb.cell rfl
  have le : be < (W4).heap.size := Nat.lt_of_lt_of_le CS1.out.le CS1.out.lB
  have lx : bx < (W4).heap.size := Nat.lt_of_lt_of_le CS1.out.lx CS1.out.lB
  have k0 : (W4).cell? ⟨kb, ko, none⟩ = some (.int .i64 (qta : Int)) := rkid_cell (j := 0) HKV.out Eta.out (HH.out.hw.trans (CS1.out.bel.mono HH.out.hw.size))
  have tokA : True := trivial
  have tokL : True := trivial
  go_upto_region 44 with (first
    | (have _t := tokA; go_at_call 30; go_must (refine (ih ta qta vs (m + 1) _ (RPre.kid (j := 0) HH.out rfl Sta.out Vta.out (by simp) (by omega) (by omega) CS1.out.bel)).mono ?_); clear tokA _t
       rintro e w5 ⟨ov, rfl, hk1, hk2⟩
       go_must (have CS2 := Lib.hid (CS1.out.call hk2))
       rw [HOA.out] at hk1
       go_must (have hsw5 := hk2.size)
       obtain ⟨aA, cA, rfl⟩ := hk1.form
       obtain ⟨nA, hnA⟩ : ∃ z, (oA).length = z := ⟨_, rfl⟩
       rw [hnA] at hk1 ⊢
       go_must (have bA : nA ≤ 1024 := by rw [← hnA, ← HOA.out]; have := cR_len f ta vs (m + 1); have := HSZ.out; simp only [sizeL] at this; omega)
       go_must (have HNA := Lib.hid hnA)
       go_must (have UA := Lib.hid hk1.block)
       go_must (have RA := Lib.hid hk1)
       clear hnA hk1
       clear hk2
       clear e0 x0 x1 x2 x3 le lx k0
       go_must (have e0 : (w5).cell? ⟨be, 0, none⟩ = some (.slice (some ⟨b, off, none⟩) nl lc) := CS2.out.eb.cell rfl)
       go_must (have x0 : (w5).cell? ⟨bx, 0, none⟩ = some (.int .i64 (k : Int)) := CS2.out.xb.cell rfl)
       go_must (have x1 : (w5).cell? ⟨bx, 1, none⟩ = some (.string (txt s)) := CS2.out.xb.cell rfl)
       go_must (have x2 : (w5).cell? ⟨bx, 2, none⟩ = some (.int .i64 n) := CS2.out.xb.cell rfl)
       go_must (have x3 : (w5).cell? ⟨bx, 3, none⟩ = some (.slice (some ⟨kb, ko, none⟩) 1 kc) := CS2.out.xb.cell rfl)
       go_must (have le : be < (w5).heap.size := Nat.lt_of_lt_of_le CS2.out.le CS2.out.lB)
       go_must (have lx : bx < (w5).heap.size := Nat.lt_of_lt_of_le CS2.out.lx CS2.out.lB)
       go_must (have k0 : (w5).cell? ⟨kb, ko, none⟩ = some (.int .i64 (qta : Int)) := rkid_cell (j := 0) HKV.out Eta.out (HH.out.hw.trans (CS2.out.bel.mono HH.out.hw.size))))
    | (have _t := tokL; go_at_call 59; go_must (refine (LK.out _).mono ?_); clear tokL _t
       rintro e w' ⟨rfl, nq, rfl⟩
       go_must (have CS3 := Lib.hid (CS2.out.drewN nq))
       go_must (have RA3 := Lib.hid (RA.out.drewN nq))
       go_must (have hsw5q : w5.heap.size ≤ (w5.drewN nq).heap.size := Nat.le_refl _)
       clear e0 x0 x1 x2 x3 le lx k0
       go_must (have e0 : ((w5.drewN nq)).cell? ⟨be, 0, none⟩ = some (.slice (some ⟨b, off, none⟩) nl lc) := CS3.out.eb.cell rfl)
       go_must (have x0 : ((w5.drewN nq)).cell? ⟨bx, 0, none⟩ = some (.int .i64 (k : Int)) := CS3.out.xb.cell rfl)
       go_must (have x1 : ((w5.drewN nq)).cell? ⟨bx, 1, none⟩ = some (.string (txt s)) := CS3.out.xb.cell rfl)
       go_must (have x2 : ((w5.drewN nq)).cell? ⟨bx, 2, none⟩ = some (.int .i64 n) := CS3.out.xb.cell rfl)
       go_must (have x3 : ((w5.drewN nq)).cell? ⟨bx, 3, none⟩ = some (.slice (some ⟨kb, ko, none⟩) 1 kc) := CS3.out.xb.cell rfl)
       go_must (have le : be < ((w5.drewN nq)).heap.size := Nat.lt_of_lt_of_le CS3.out.le CS3.out.lB)
       go_must (have lx : bx < ((w5.drewN nq)).heap.size := Nat.lt_of_lt_of_le CS3.out.lx CS3.out.lB)
       go_must (have k0 : ((w5.drewN nq)).cell? ⟨kb, ko, none⟩ = some (.int .i64 (qta : Int)) := rkid_cell (j := 0) HKV.out Eta.out (HH.out.hw.trans (CS3.out.bel.mono HH.out.hw.size))))
    | fail)
  generalize (w5.drewN nq) = W6 at *
  go_wp2_with fail
  go_loopw [11, 21] (fun v11 v21 wr => v21 = .int .i64 1 ∧ Hid (Own1 wr bs 46 4 Ins.Is v11 (oA) ∧ CSt W wr (.slice (some ⟨b, off, none⟩) nl lc) be bx #[.int .i64 (k : Int), .string (txt s), .int .i64 n, .slice (some ⟨kb, ko, none⟩) 1 kc] bs)) (fun _ v21 _ => 2 - (intOf v21).toNat)
  case atStart => exact ⟨rfl, Lib.hid ⟨(RA3.out.mono (by omega)), CS3.out⟩⟩
  case round =>
    obtain ⟨rfl, hq0⟩ := hrel
    have hq := hq0.out
    clear hq0
    have CSr := Lib.hid hq.2
    have hk1 := hq.1
    clear hq
    have hsr : bs ≤ wr.heap.size := CSr.out.lB
    obtain ⟨aO, cO, rfl⟩ := hk1.form
    obtain ⟨nO, hnO⟩ : ∃ z, (oA).length = z := ⟨_, rfl⟩
    rw [hnO] at hk1 ⊢
    have bO : nO ≤ 1024 := by rw [← hnO, ← HOA.out]; have := cR_len f ta vs (m + 1); have := HSZ.out; simp only [sizeL] at this; omega
    have HNO := Lib.hid hnO
    have UO := Lib.hid hk1.block
    have RO := Lib.hid hk1
    clear hnO hk1
    clear e0 x0 x1 x2 x3 le lx k0
    have e0 : (wr).cell? ⟨be, 0, none⟩ = some (.slice (some ⟨b, off, none⟩) nl lc) := CSr.out.eb.cell rfl
    have x0 : (wr).cell? ⟨bx, 0, none⟩ = some (.int .i64 (k : Int)) := CSr.out.xb.cell rfl
    have x1 : (wr).cell? ⟨bx, 1, none⟩ = some (.string (txt s)) := CSr.out.xb.cell rfl
    have x2 : (wr).cell? ⟨bx, 2, none⟩ = some (.int .i64 n) := CSr.out.xb.cell rfl
    have x3 : (wr).cell? ⟨bx, 3, none⟩ = some (.slice (some ⟨kb, ko, none⟩) 1 kc) := CSr.out.xb.cell rfl
    have le : be < (wr).heap.size := Nat.lt_of_lt_of_le CSr.out.le CSr.out.lB
    have lx : bx < (wr).heap.size := Nat.lt_of_lt_of_le CSr.out.lx CSr.out.lB
    have k0 : (wr).cell? ⟨kb, ko, none⟩ = some (.int .i64 (qta : Int)) := rkid_cell (j := 0) HKV.out Eta.out (HH.out.hw.trans (CSr.out.bel.mono HH.out.hw.size))
    have tokW : True := trivial
    have tokI : True := trivial
    go_upto_region 49 with (first
      | (have _t := tokW; go_at_call 56; go_must (refine (WK.out _).mono ?_); clear tokW _t
         rintro e w' ⟨rfl, nq, rfl⟩
         go_must (have CS4 := Lib.hid (CSr.out.drewN nq))
         go_must (have RO4 := Lib.hid (RO.out.drewN nq))
         go_must (have hswrq : wr.heap.size ≤ (wr.drewN nq).heap.size := Nat.le_refl _)
         clear e0 x0 x1 x2 x3 le lx k0
         go_must (have e0 : ((wr.drewN nq)).cell? ⟨be, 0, none⟩ = some (.slice (some ⟨b, off, none⟩) nl lc) := CS4.out.eb.cell rfl)
         go_must (have x0 : ((wr.drewN nq)).cell? ⟨bx, 0, none⟩ = some (.int .i64 (k : Int)) := CS4.out.xb.cell rfl)
         go_must (have x1 : ((wr.drewN nq)).cell? ⟨bx, 1, none⟩ = some (.string (txt s)) := CS4.out.xb.cell rfl)
         go_must (have x2 : ((wr.drewN nq)).cell? ⟨bx, 2, none⟩ = some (.int .i64 n) := CS4.out.xb.cell rfl)
         go_must (have x3 : ((wr.drewN nq)).cell? ⟨bx, 3, none⟩ = some (.slice (some ⟨kb, ko, none⟩) 1 kc) := CS4.out.xb.cell rfl)
         go_must (have le : be < ((wr.drewN nq)).heap.size := Nat.lt_of_lt_of_le CS4.out.le CS4.out.lB)
         go_must (have lx : bx < ((wr.drewN nq)).heap.size := Nat.lt_of_lt_of_le CS4.out.lx CS4.out.lB)
         go_must (have k0 : ((wr.drewN nq)).cell? ⟨kb, ko, none⟩ = some (.int .i64 (qta : Int)) := rkid_cell (j := 0) HKV.out Eta.out (HH.out.hw.trans (CS4.out.bel.mono HH.out.hw.size))))
      | (have _t := tokI; go_at_call 55; go_must (refine (IK.out _).mono ?_); clear tokI _t
         rintro e w8 ⟨rfl, hb⟩
         go_must (have CS5 := Lib.hid (CS4.out.call hb))
         go_must (have RO5 := Lib.hid (RO4.out.below hb (Nat.le_refl _)))
         go_must (have hsw8 := hb.size)
         clear hb
         clear e0 x0 x1 x2 x3 le lx k0
         go_must (have e0 : (w8).cell? ⟨be, 0, none⟩ = some (.slice (some ⟨b, off, none⟩) nl lc) := CS5.out.eb.cell rfl)
         go_must (have x0 : (w8).cell? ⟨bx, 0, none⟩ = some (.int .i64 (k : Int)) := CS5.out.xb.cell rfl)
         go_must (have x1 : (w8).cell? ⟨bx, 1, none⟩ = some (.string (txt s)) := CS5.out.xb.cell rfl)
         go_must (have x2 : (w8).cell? ⟨bx, 2, none⟩ = some (.int .i64 n) := CS5.out.xb.cell rfl)
         go_must (have x3 : (w8).cell? ⟨bx, 3, none⟩ = some (.slice (some ⟨kb, ko, none⟩) 1 kc) := CS5.out.xb.cell rfl)
         go_must (have le : be < (w8).heap.size := Nat.lt_of_lt_of_le CS5.out.le CS5.out.lB)
         go_must (have lx : bx < (w8).heap.size := Nat.lt_of_lt_of_le CS5.out.lx CS5.out.lB)
         go_must (have k0 : (w8).cell? ⟨kb, ko, none⟩ = some (.int .i64 (qta : Int)) := rkid_cell (j := 0) HKV.out Eta.out (HH.out.hw.trans (CS5.out.bel.mono HH.out.hw.size))))
      | fail)
    have CS6 := Lib.hid (CS5.out.alloc (.cells #[.int .i64 op0, .int .i64 0, .int .i64 0, .string ⟨#[]⟩] 46))
    have RO6 := Lib.hid (RO5.out.alloc (.cells #[.int .i64 op0, .int .i64 0, .int .i64 0, .string ⟨#[]⟩] 46))
    have By := Lib.hid (Blk.new w8 46 #[.int .i64 op0, .int .i64 0, .int .i64 0, .string ⟨#[]⟩])
    have hsW9 : w8.heap.size < (w8.alloc (.cells #[.int .i64 op0, .int .i64 0, .int .i64 0, .string ⟨#[]⟩] 46)).heap.size := by simp
    generalize w8.alloc (.cells #[.int .i64 op0, .int .i64 0, .int .i64 0, .string ⟨#[]⟩] 46) = W9 at *
    clear e0 x0 x1 x2 x3 le lx k0
    have e0 : (W9).cell? ⟨be, 0, none⟩ = some (.slice (some ⟨b, off, none⟩) nl lc) := CS6.out.eb.cell rfl
    have x0 : (W9).cell? ⟨bx, 0, none⟩ = some (.int .i64 (k : Int)) := CS6.out.xb.cell rfl
    have x1 : (W9).cell? ⟨bx, 1, none⟩ = some (.string (txt s)) := CS6.out.xb.cell rfl
    have x2 : (W9).cell? ⟨bx, 2, none⟩ = some (.int .i64 n) := CS6.out.xb.cell rfl
    have x3 : (W9).cell? ⟨bx, 3, none⟩ = some (.slice (some ⟨kb, ko, none⟩) 1 kc) := CS6.out.xb.cell rfl
    have le : be < (W9).heap.size := Nat.lt_of_lt_of_le CS6.out.le CS6.out.lB
    have lx : bx < (W9).heap.size := Nat.lt_of_lt_of_le CS6.out.lx CS6.out.lB
    have k0 : (W9).cell? ⟨kb, ko, none⟩ = some (.int .i64 (qta : Int)) := rkid_cell (j := 0) HKV.out Eta.out (HH.out.hw.trans (CS6.out.bel.mono HH.out.hw.size))
    have y0 : (W9).cell? ⟨w8.heap.size, 0, none⟩ = some (.int .i64 op0) := By.out.cell rfl
    have y1 : (W9).cell? ⟨w8.heap.size, 1, none⟩ = some (.int .i64 0) := By.out.cell rfl
    have y2 : (W9).cell? ⟨w8.heap.size, 2, none⟩ = some (.int .i64 0) := By.out.cell rfl
    have y3 : (W9).cell? ⟨w8.heap.size, 3, none⟩ = some (.string ⟨#[]⟩) := By.out.cell rfl
    have ly : w8.heap.size < (W9).heap.size := By.out.lt
    have yf0 : (W9).frozen? ⟨w8.heap.size, 0, none⟩ = false := By.out.frozen 0
    have yf1 : (W9).frozen? ⟨w8.heap.size, 1, none⟩ = false := By.out.frozen 1
    have yf2 : (W9).frozen? ⟨w8.heap.size, 2, none⟩ = false := By.out.frozen 2
    have yf3 : (W9).frozen? ⟨w8.heap.size, 3, none⟩ = false := By.out.frozen 3
    go_upto_region 51 with fail
    have tokP : True := trivial
    go_wp2_with (first
      | (have _t := tokP
         at_builtin
         go_must (refine wpList_append_list rfl (.tmp 243) (.tmp 245) _ (by rfl) bs (W9.heap.size + 1) 46 jI _ 4 40 Tryd.underlying22 I.out.1 I.out.2.1 I.out.2.2.1 I.out.2.2.2 rfl (by omega) (R := Ins.Is) (l := oA) (m := [⟨op0, 0, 0, ⟨#[]⟩⟩]) (.slice aO nO cO) (by rfl) (by exact (RO6.out.alloc (.cells #[.int .i64 op0, .int .i64 0, .int .i64 0, .string ⟨#[]⟩] 46))) (some ⟨W9.heap.size, 0, none⟩) 1 1 (by rfl) (SlR.new1 (w := W9) (e := 46) (g := W9.heap.size) rfl (x := [.int .i64 op0, .int .i64 0, .int .i64 0, .string ⟨#[]⟩]) rfl (R := Ins.Is) (y := ⟨op0, 0, 0, ⟨#[]⟩⟩) ⟨rfl, ins_ok hsm1 hsm2 (by omega) (by omega) (by omega) (by omega) nil_size⟩) (nO + 1) (by rw [HNO.out]) Ins.Is.one (by have := HNO.out; unfold maxLen; simp <;> omega) (by have := HNO.out; simp <;> omega) (by simp <;> omega) ?_)
         clear tokP _t
         intro aO' cO' w11 hown hgr
         go_must (have CS7 := Lib.hid ((CS6.out.alloc (.cells #[.int .i64 op0, .int .i64 0, .int .i64 0, .string ⟨#[]⟩] 46)).grown ((RO6.out.alloc (.cells #[.int .i64 op0, .int .i64 0, .int .i64 0, .string ⟨#[]⟩] 46)).mono (by have := CS6.out.lB; omega)) hgr))
         go_must (have RO7 := Lib.hid hown)
         go_must (have hsw11 : W9.heap.size < w11.heap.size := by have := hgr.size; simp at this; omega)
         clear hown hgr
         clear e0 x0 x1 x2 x3 le lx k0 y0 y1 y2 y3 ly yf0 yf1 yf2 yf3
         go_must (have e0 : (w11).cell? ⟨be, 0, none⟩ = some (.slice (some ⟨b, off, none⟩) nl lc) := CS7.out.eb.cell rfl)
         go_must (have x0 : (w11).cell? ⟨bx, 0, none⟩ = some (.int .i64 (k : Int)) := CS7.out.xb.cell rfl)
         go_must (have x1 : (w11).cell? ⟨bx, 1, none⟩ = some (.string (txt s)) := CS7.out.xb.cell rfl)
         go_must (have x2 : (w11).cell? ⟨bx, 2, none⟩ = some (.int .i64 n) := CS7.out.xb.cell rfl)
         go_must (have x3 : (w11).cell? ⟨bx, 3, none⟩ = some (.slice (some ⟨kb, ko, none⟩) 1 kc) := CS7.out.xb.cell rfl)
         go_must (have le : be < (w11).heap.size := Nat.lt_of_lt_of_le CS7.out.le CS7.out.lB)
         go_must (have lx : bx < (w11).heap.size := Nat.lt_of_lt_of_le CS7.out.lx CS7.out.lB)
         go_must (have k0 : (w11).cell? ⟨kb, ko, none⟩ = some (.int .i64 (qta : Int)) := rkid_cell (j := 0) HKV.out Eta.out (HH.out.hw.trans (CS7.out.bel.mono HH.out.hw.size))))
      | fail)
    go_ret
    rw [HCR.out]
    rw [shape_notext HND.out.1 (by omega)]
    exact rcodeK_of (RO7.out.mono (by omega)) CS7.out.bel
set_option maxRecDepth 100000 in
set_option maxHeartbeats 8000000 in
theorem rcode_two {l : List ND} {lv : Value} {W0 : World} {f k p : Nat} {s : List Nat} {n m : Int} {ta tb : Tr} {vs : List (List Nat)} {W : World} (H : RPre l lv W0 (f + 1) (.node k s n [ta, tb]) p vs m W) (ih : RCodeIs l lv W0 f) (hk : 20 ≤ k ∧ k ≤ 26) : Calls Tryd.prog 30 #[.agg #[lv], .int .i64 (p : Int), .int .i64 m] W (RCodeK W (cR (f + 1) (.node k s n [ta, tb]) vs m)) := by
  obtain ⟨hd, hks⟩ := stands_node H.st
  obtain ⟨la, lc, rfl, _, _⟩ := H.hs.form
  have hpl := (List.getElem?_eq_some_iff.1 hd).1
  obtain ⟨nl, hnl⟩ : ∃ z, l.length = z := ⟨_, rfl⟩
  rw [hnl] at H hpl ⊢
  try rw [hnl] at ih
  have hB6 := H.hw.alloc H.hw.size (.cells #[.slice la nl lc] 38)
  have hhs := H.hs
  obtain ⟨b, off, x, rfl, hbB, hxl, ⟨kv, rfl, hkv⟩, hx⟩ := (hhs.below hB6).at_ hd
  obtain ⟨ka, kc, rfl, _, _⟩ := hkv.form
  simp only [List.length_map, places_len] at hkv hx
  simp only [List.length_cons, List.length_nil, Nat.zero_add, Nat.reduceAdd] at hkv hx
  have x0 := hx 0 _ rfl
  have x1 := hx 1 _ rfl
  have x2 := hx 2 _ rfl
  have x3 := hx 3 _ rfl
  simp only [Nat.add_zero] at x0
  have p0 : (0 : Int) ≤ (p : Int) := Int.natCast_nonneg _
  have p1 : (p : Int) < (nl : Int) := by omega
  have HH := Lib.hid H
  have HNL := Lib.hid hnl
  have HKV := Lib.hid hkv
  have m1 := H.m1
  have m2 : m ≤ 1000 := by have := H.mf; omega
  obtain ⟨jI, hi, hz, hsz, hby⟩ := info_parts info_Ins
  have I := Lib.hid (And.intro hi (And.intro hz (And.intro hsz hby)))
  clear hi hz hsz hby H hd hkv hx hxl hks hnl hhs hB6
  go_enter Tryd.func30, Tryd.ntmps30
  go_upto_region 1 with fail
  have e0 : (W.alloc (.cells #[(.slice (some ⟨b, off, none⟩) nl lc)] 38)).cell? ⟨W.heap.size, 0, none⟩ = some (.slice (some ⟨b, off, none⟩) nl lc) := (Blk.new W 38 #[(.slice (some ⟨b, off, none⟩) nl lc)]).cell rfl
  have lw0 : W.heap.size < (W.alloc (.cells #[(.slice (some ⟨b, off, none⟩) nl lc)] 38)).heap.size := (Blk.new W 38 #[(.slice (some ⟨b, off, none⟩) nl lc)]).lt
  generalize hW1 : W.alloc (.cells #[(.slice (some ⟨b, off, none⟩) nl lc)] 38) = W1 at *
  have HW1 := Lib.hid hW1
  clear hW1
  go_upto_region 4 with (first
    | (go_at_call 55; go_must (refine (rins_step _).mono ?_); rintro e w2 ⟨rfl, hb⟩; go_must (have HB := Lib.hid (CSt.make HW1.out.symm hb)); clear hb)
    | fail)
  clear x0 x1 x2 x3 e0 lw0
  have CS := Lib.hid (HB.out.alloc (.cells #[.int .i64 1, .int .i64 m, .int .i64 0, .string ⟨#[]⟩] 46))
  have SK := Lib.hid (Blk.new w2 46 #[.int .i64 1, .int .i64 m, .int .i64 0, .string ⟨#[]⟩])
  generalize hW3 : w2.alloc (.cells #[.int .i64 1, .int .i64 m, .int .i64 0, .string ⟨#[]⟩] 46) = W3 at *
  obtain ⟨be, hbe⟩ : ∃ z, W.heap.size = z := ⟨_, rfl⟩
  obtain ⟨bx, hbx⟩ : ∃ z, W1.heap.size = z := ⟨_, rfl⟩
  obtain ⟨bs, hbs⟩ : ∃ z, w2.heap.size = z := ⟨_, rfl⟩
  rw [hbe] at CS
  rw [hbx, hbs] at CS
  rw [hbs] at SK
  first | rw [hbe, hbx, hbs] | rw [hbx, hbe, hbs]
  clear HB hW3 hbx hbs HW1
  have e0 : (W3).cell? ⟨be, 0, none⟩ = some (.slice (some ⟨b, off, none⟩) nl lc) := CS.out.eb.cell rfl
  have x0 : (W3).cell? ⟨bx, 0, none⟩ = some (.int .i64 (k : Int)) := CS.out.xb.cell rfl
  have x1 : (W3).cell? ⟨bx, 1, none⟩ = some (.string (txt s)) := CS.out.xb.cell rfl
  have x2 : (W3).cell? ⟨bx, 2, none⟩ = some (.int .i64 n) := CS.out.xb.cell rfl
  have x3 : (W3).cell? ⟨bx, 3, none⟩ = some (.slice ka 2 kc) := CS.out.xb.cell rfl
  have le : be < (W3).heap.size := Nat.lt_of_lt_of_le CS.out.le CS.out.lB
  have lx : bx < (W3).heap.size := Nat.lt_of_lt_of_le CS.out.lx CS.out.lB
  have HSZ : Hid (1 + sizeL [ta, tb] ≤ 256) := Lib.hid (by have h1 := stands_size HH.out.st; have h2 := HH.out.hl; have := HNL.out; simp only [Tr.size] at h1; omega)
  obtain ⟨qta, sta, uta, eta⟩ := rkid HH.out.st HH.out.un (j := 0) (a := ta) rfl
  rw [if_neg (by omega)] at uta
  have Sta := Lib.hid sta
  have Vta := Lib.hid uta
  have Eta := Lib.hid eta
  clear sta uta eta
  obtain ⟨qtb, stb, utb, etb⟩ := rkid HH.out.st HH.out.un (j := 1) (a := tb) rfl
  rw [if_neg (by omega)] at utb
  have Stb := Lib.hid stb
  have Vtb := Lib.hid utb
  have Etb := Lib.hid etb
  clear stb utb etb
  obtain ⟨kb, ko, rfl⟩ := kid_form HKV.out (stands_node HH.out.st).2 (j := 0) (t := ta) rfl
  have wr1 : IntKind.i64.wrap (m + 1) = m + 1 := by rw [IntKind.wrap_i64]; omega
  have hs0 : bs ≤ W3.heap.size := CS.out.lB
  have hwl : W.heap.size ≤ bs := CS.out.wl
  obtain ⟨oA, hoA⟩ : ∃ z, cR f ta vs (m + 1) = z := ⟨_, rfl⟩
  have HOA := Lib.hid hoA
  have OPSA : Hid (∀ y ∈ oA, (1 ≤ y.op ∧ y.op ≤ 40) ∧ -1000000 ≤ y.arg ∧ y.arg ≤ 1000000) := Lib.hid (by rw [← hoA]; exact rcode_ops HH.out (j := 0) rfl (by simp) (by omega) (by omega))
  clear hoA
  obtain ⟨oB, hoB⟩ : ∃ z, cR f tb vs (1) = z := ⟨_, rfl⟩
  have HOB := Lib.hid hoB
  have OPSB : Hid (∀ y ∈ oB, (1 ≤ y.op ∧ y.op ≤ 40) ∧ -1000000 ≤ y.arg ∧ y.arg ≤ 1000000) := Lib.hid (by rw [← hoB]; exact rcode_ops HH.out (j := 1) rfl (by simp) (by omega) (by omega))
  clear hoB
  have hcr : cR (f + 1) (.node k s n [ta, tb]) vs m = thenN oA oB ++ [⟨sameN k, 0, 0, txt s⟩] := by rw [← HOA.out, ← HOB.out]; simp only [cR]; rw [if_neg (by omega), if_neg (by omega)]
  have hop : opR (wordK k) = sameN k := by rw [opR_wordK (by omega)]; unfold opK; rw [if_neg (by omega)]
  have ek8 : ((k : Int) == 8) = false := by rw [beq_eq_false_iff_ne]; omega
  have ek9 : ((k : Int) == 9) = false := by rw [beq_eq_false_iff_ne]; omega
  have ek10 : ((k : Int) == 10) = false := by rw [beq_eq_false_iff_ne]; omega
  have ek12 : ((k : Int) == 12) = false := by rw [beq_eq_false_iff_ne]; omega
  have ek13 : ((k : Int) == 13) = false := by rw [beq_eq_false_iff_ne]; omega
  have ek27 : ((k : Int) == 27) = false := by rw [beq_eq_false_iff_ne]; omega
  have ek28 : ((k : Int) == 28) = false := by rw [beq_eq_false_iff_ne]; omega
  have ek30 : ((k : Int) == 30) = false := by rw [beq_eq_false_iff_ne]; omega
  have hlk : decide (31 ≤ (k : Int) ∧ (k : Int) ≤ 34) = false := by simp; try omega
  have LK := Lib.hid (rloop_any (k : Int))
  rw [hlk] at LK
  clear hlk
  have WK : Hid (∀ w, Calls Tryd.prog 56 #[.int .i64 (k : Int)] w fun e w' => e = .returned (.string (wordK k)) ∧ Quiet w w') := Lib.hid (fun w => rkind_any k (by omega) w)
  obtain ⟨wk, hwk⟩ : ∃ z, wordK k = z := ⟨_, rfl⟩
  rw [hwk] at WK hop
  have IK := Lib.hid (rins_any wk)
  rw [hop] at IK
  obtain ⟨op0, hop0⟩ : ∃ z, sameN k = z := ⟨_, rfl⟩
  have hsm : -9223372036854775808 ≤ op0 ∧ op0 ≤ 9223372036854775807 := by rw [← hop0]; exact sameN_rng (by omega)
  obtain ⟨hsm1, hsm2⟩ := hsm
  rw [hop0] at IK hcr
  have HCR := Lib.hid hcr
  clear hwk hop hop0 hcr
  have HND := Lib.hid HH.out.good.1
  clear e0 x0 x1 x2 x3 le lx
  have e0 : (W3).cell? ⟨be, 0, none⟩ = some (.slice (some ⟨b, off, none⟩) nl lc) := CS.out.eb.cell rfl
  have x0 : (W3).cell? ⟨bx, 0, none⟩ = some (.int .i64 (k : Int)) := CS.out.xb.cell rfl
  have x1 : (W3).cell? ⟨bx, 1, none⟩ = some (.string (txt s)) := CS.out.xb.cell rfl
  have x2 : (W3).cell? ⟨bx, 2, none⟩ = some (.int .i64 n) := CS.out.xb.cell rfl
  have x3 : (W3).cell? ⟨bx, 3, none⟩ = some (.slice (some ⟨kb, ko, none⟩) 2 kc) := CS.out.xb.cell rfl
  have le : be < (W3).heap.size := Nat.lt_of_lt_of_le CS.out.le CS.out.lB
  have lx : bx < (W3).heap.size := Nat.lt_of_lt_of_le CS.out.lx CS.out.lB
  have k0 : (W3).cell? ⟨kb, ko, none⟩ = some (.int .i64 (qta : Int)) := rkid_cell (j := 0) HKV.out Eta.out (HH.out.hw.trans (CS.out.bel.mono HH.out.hw.size))
  have k1 : (W3).cell? ⟨kb, ko + 1, none⟩ = some (.int .i64 (qtb : Int)) := rkid_cell (j := 1) HKV.out Etb.out (HH.out.hw.trans (CS.out.bel.mono HH.out.hw.size))
  go_upto_region 20 with fail
  go_still_tail 7, (by kernel_rfl)
  change wpList _ _ _ _ _ W3.drew
  have CS1 := Lib.hid (CS.out.drew)
  have hsW4 : W3.heap.size ≤ W3.drew.heap.size := Nat.le_refl _
  generalize W3.drew = W4 at *
  clear e0 x0 x1 x2 x3 le lx k0 k1
  have e0 : (W4).cell? ⟨be, 0, none⟩ = some (.slice (some ⟨b, off, none⟩) nl lc) := CS1.out.eb.cell rfl
  have x0 : (W4).cell? ⟨bx, 0, none⟩ = some (.int .i64 (k : Int)) := CS1.out.xb.cell rfl
  have x1 : (W4).cell? ⟨bx, 1, none⟩ = some (.string (txt s)) := CS1.out.xb.cell rfl
  have x2 : (W4).cell? ⟨bx, 2, none⟩ = some (.int .i64 n) := CS1.out.xb.cell rfl
  have x3 : (W4).cell? ⟨bx, 3, none⟩ = some (.slice (some ⟨kb, ko, none⟩) 2 kc) := CS1.out.xb.cell rfl
  have le : be < (W4).heap.size := Nat.lt_of_lt_of_le CS1.out.le CS1.out.lB
  have lx : bx < (W4).heap.size := Nat.lt_of_lt_of_le CS1.out.lx CS1.out.lB
  have k0 : (W4).cell? ⟨kb, ko, none⟩ = some (.int .i64 (qta : Int)) := rkid_cell (j := 0) HKV.out Eta.out (HH.out.hw.trans (CS1.out.bel.mono HH.out.hw.size))
  have k1 : (W4).cell? ⟨kb, ko + 1, none⟩ = some (.int .i64 (qtb : Int)) := rkid_cell (j := 1) HKV.out Etb.out (HH.out.hw.trans (CS1.out.bel.mono HH.out.hw.size))
  have tokA : True := trivial
  have tokL : True := trivial
  go_upto_region 44 with (first
    | (have _t := tokA; go_at_call 30; go_must (refine (ih ta qta vs (m + 1) _ (RPre.kid (j := 0) HH.out rfl Sta.out Vta.out (by simp) (by omega) (by omega) CS1.out.bel)).mono ?_); clear tokA _t
       rintro e w5 ⟨ov, rfl, hk1, hk2⟩
       go_must (have CS2 := Lib.hid (CS1.out.call hk2))
       rw [HOA.out] at hk1
       go_must (have hsw5 := hk2.size)
       obtain ⟨aA, cA, rfl⟩ := hk1.form
       obtain ⟨nA, hnA⟩ : ∃ z, (oA).length = z := ⟨_, rfl⟩
       rw [hnA] at hk1 ⊢
       go_must (have bA : nA ≤ 1024 := by rw [← hnA, ← HOA.out]; have := cR_len f ta vs (m + 1); have := HSZ.out; simp only [sizeL] at this; omega)
       go_must (have HNA := Lib.hid hnA)
       go_must (have UA := Lib.hid hk1.block)
       go_must (have RA := Lib.hid hk1)
       clear hnA hk1
       clear hk2
       clear e0 x0 x1 x2 x3 le lx k0 k1
       go_must (have e0 : (w5).cell? ⟨be, 0, none⟩ = some (.slice (some ⟨b, off, none⟩) nl lc) := CS2.out.eb.cell rfl)
       go_must (have x0 : (w5).cell? ⟨bx, 0, none⟩ = some (.int .i64 (k : Int)) := CS2.out.xb.cell rfl)
       go_must (have x1 : (w5).cell? ⟨bx, 1, none⟩ = some (.string (txt s)) := CS2.out.xb.cell rfl)
       go_must (have x2 : (w5).cell? ⟨bx, 2, none⟩ = some (.int .i64 n) := CS2.out.xb.cell rfl)
       go_must (have x3 : (w5).cell? ⟨bx, 3, none⟩ = some (.slice (some ⟨kb, ko, none⟩) 2 kc) := CS2.out.xb.cell rfl)
       go_must (have le : be < (w5).heap.size := Nat.lt_of_lt_of_le CS2.out.le CS2.out.lB)
       go_must (have lx : bx < (w5).heap.size := Nat.lt_of_lt_of_le CS2.out.lx CS2.out.lB)
       go_must (have k0 : (w5).cell? ⟨kb, ko, none⟩ = some (.int .i64 (qta : Int)) := rkid_cell (j := 0) HKV.out Eta.out (HH.out.hw.trans (CS2.out.bel.mono HH.out.hw.size)))
       go_must (have k1 : (w5).cell? ⟨kb, ko + 1, none⟩ = some (.int .i64 (qtb : Int)) := rkid_cell (j := 1) HKV.out Etb.out (HH.out.hw.trans (CS2.out.bel.mono HH.out.hw.size))))
    | (have _t := tokL; go_at_call 59; go_must (refine (LK.out _).mono ?_); clear tokL _t
       rintro e w' ⟨rfl, nq, rfl⟩
       go_must (have CS3 := Lib.hid (CS2.out.drewN nq))
       go_must (have RA3 := Lib.hid (RA.out.drewN nq))
       go_must (have hsw5q : w5.heap.size ≤ (w5.drewN nq).heap.size := Nat.le_refl _)
       clear e0 x0 x1 x2 x3 le lx k0 k1
       go_must (have e0 : ((w5.drewN nq)).cell? ⟨be, 0, none⟩ = some (.slice (some ⟨b, off, none⟩) nl lc) := CS3.out.eb.cell rfl)
       go_must (have x0 : ((w5.drewN nq)).cell? ⟨bx, 0, none⟩ = some (.int .i64 (k : Int)) := CS3.out.xb.cell rfl)
       go_must (have x1 : ((w5.drewN nq)).cell? ⟨bx, 1, none⟩ = some (.string (txt s)) := CS3.out.xb.cell rfl)
       go_must (have x2 : ((w5.drewN nq)).cell? ⟨bx, 2, none⟩ = some (.int .i64 n) := CS3.out.xb.cell rfl)
       go_must (have x3 : ((w5.drewN nq)).cell? ⟨bx, 3, none⟩ = some (.slice (some ⟨kb, ko, none⟩) 2 kc) := CS3.out.xb.cell rfl)
       go_must (have le : be < ((w5.drewN nq)).heap.size := Nat.lt_of_lt_of_le CS3.out.le CS3.out.lB)
       go_must (have lx : bx < ((w5.drewN nq)).heap.size := Nat.lt_of_lt_of_le CS3.out.lx CS3.out.lB)
       go_must (have k0 : ((w5.drewN nq)).cell? ⟨kb, ko, none⟩ = some (.int .i64 (qta : Int)) := rkid_cell (j := 0) HKV.out Eta.out (HH.out.hw.trans (CS3.out.bel.mono HH.out.hw.size)))
       go_must (have k1 : ((w5.drewN nq)).cell? ⟨kb, ko + 1, none⟩ = some (.int .i64 (qtb : Int)) := rkid_cell (j := 1) HKV.out Etb.out (HH.out.hw.trans (CS3.out.bel.mono HH.out.hw.size))))
    | fail)
  generalize (w5.drewN nq) = W6 at *
  go_wp2_with fail
  go_loopw [11, 21] (fun v11 v21 wr => Hid ((v21 = .int .i64 1 ∧ Own1 wr bs 46 4 Ins.Is v11 (oA) ∧ CSt W wr (.slice (some ⟨b, off, none⟩) nl lc) be bx #[.int .i64 (k : Int), .string (txt s), .int .i64 n, .slice (some ⟨kb, ko, none⟩) 2 kc] bs) ∨ (v21 = .int .i64 2 ∧ Own1 wr bs 46 4 Ins.Is v11 (thenN oA oB) ∧ CSt W wr (.slice (some ⟨b, off, none⟩) nl lc) be bx #[.int .i64 (k : Int), .string (txt s), .int .i64 n, .slice (some ⟨kb, ko, none⟩) 2 kc] bs))) (fun _ v21 _ => 2 - (intOf v21).toNat)
  case atStart => exact Lib.hid (.inl ⟨rfl, (RA3.out.mono (by omega)), CS3.out⟩)
  case round =>
    rcases hrel.out with ⟨rfl, hq⟩ | ⟨rfl, hq⟩
    · clear hrel
      have CSr := Lib.hid hq.2
      have hk1 := hq.1
      clear hq
      have hsr : bs ≤ wr.heap.size := CSr.out.lB
      obtain ⟨aO, cO, rfl⟩ := hk1.form
      obtain ⟨nO, hnO⟩ : ∃ z, (oA).length = z := ⟨_, rfl⟩
      rw [hnO] at hk1 ⊢
      have bO : nO ≤ 1024 := by rw [← hnO, ← HOA.out]; have := cR_len f ta vs (m + 1); have := HSZ.out; simp only [sizeL] at this; omega
      have HNO := Lib.hid hnO
      have UO := Lib.hid hk1.block
      have RO := Lib.hid hk1
      clear hnO hk1
      clear e0 x0 x1 x2 x3 le lx k0 k1
      have e0 : (wr).cell? ⟨be, 0, none⟩ = some (.slice (some ⟨b, off, none⟩) nl lc) := CSr.out.eb.cell rfl
      have x0 : (wr).cell? ⟨bx, 0, none⟩ = some (.int .i64 (k : Int)) := CSr.out.xb.cell rfl
      have x1 : (wr).cell? ⟨bx, 1, none⟩ = some (.string (txt s)) := CSr.out.xb.cell rfl
      have x2 : (wr).cell? ⟨bx, 2, none⟩ = some (.int .i64 n) := CSr.out.xb.cell rfl
      have x3 : (wr).cell? ⟨bx, 3, none⟩ = some (.slice (some ⟨kb, ko, none⟩) 2 kc) := CSr.out.xb.cell rfl
      have le : be < (wr).heap.size := Nat.lt_of_lt_of_le CSr.out.le CSr.out.lB
      have lx : bx < (wr).heap.size := Nat.lt_of_lt_of_le CSr.out.lx CSr.out.lB
      have k0 : (wr).cell? ⟨kb, ko, none⟩ = some (.int .i64 (qta : Int)) := rkid_cell (j := 0) HKV.out Eta.out (HH.out.hw.trans (CSr.out.bel.mono HH.out.hw.size))
      have k1 : (wr).cell? ⟨kb, ko + 1, none⟩ = some (.int .i64 (qtb : Int)) := rkid_cell (j := 1) HKV.out Etb.out (HH.out.hw.trans (CSr.out.bel.mono HH.out.hw.size))
      go_upto_region 47 with fail
      have tokB : True := trivial
      have tokT : True := trivial
      have RO0 := RO
      have CSr0 := CSr
      have CS4 := Lib.hid (CSr.out.drew)
      have RO4 := Lib.hid (RO.out.drew)
      have hsd : wr.heap.size ≤ wr.drew.heap.size := Nat.le_refl _
      go_region_law (first
        | (have _t := tokB; go_simp; go_at_call 30; go_must (refine (ih tb qtb vs (1) _ (RPre.kid (j := 1) HH.out rfl Stb.out Vtb.out (by simp) (by omega) (by omega) CS4.out.bel)).mono ?_); clear tokB _t
           rintro e w8 ⟨ov, rfl, hk1, hk2⟩
           go_must (have CS5 := Lib.hid (CS4.out.call hk2))
           rw [HOB.out] at hk1
           go_must (have RO5 := Lib.hid (RO4.out.below hk2 (Nat.le_refl _)))
           go_must (have hsw8 := hk2.size)
           obtain ⟨aB, cB, rfl⟩ := hk1.form
           obtain ⟨nB, hnB⟩ : ∃ z, (oB).length = z := ⟨_, rfl⟩
           rw [hnB] at hk1 ⊢
           go_must (have bB : nB ≤ 1024 := by rw [← hnB, ← HOB.out]; have := cR_len f tb vs (1); have := HSZ.out; simp only [sizeL] at this; omega)
           go_must (have HNB := Lib.hid hnB)
           go_must (have UB := Lib.hid hk1.block)
           go_must (have RB := Lib.hid hk1)
           clear hnB hk1
           clear hk2
           clear e0 x0 x1 x2 x3 le lx k0 k1
           go_must (have e0 : (w8).cell? ⟨be, 0, none⟩ = some (.slice (some ⟨b, off, none⟩) nl lc) := CS5.out.eb.cell rfl)
           go_must (have x0 : (w8).cell? ⟨bx, 0, none⟩ = some (.int .i64 (k : Int)) := CS5.out.xb.cell rfl)
           go_must (have x1 : (w8).cell? ⟨bx, 1, none⟩ = some (.string (txt s)) := CS5.out.xb.cell rfl)
           go_must (have x2 : (w8).cell? ⟨bx, 2, none⟩ = some (.int .i64 n) := CS5.out.xb.cell rfl)
           go_must (have x3 : (w8).cell? ⟨bx, 3, none⟩ = some (.slice (some ⟨kb, ko, none⟩) 2 kc) := CS5.out.xb.cell rfl)
           go_must (have le : be < (w8).heap.size := Nat.lt_of_lt_of_le CS5.out.le CS5.out.lB)
           go_must (have lx : bx < (w8).heap.size := Nat.lt_of_lt_of_le CS5.out.lx CS5.out.lB)
           go_must (have k0 : (w8).cell? ⟨kb, ko, none⟩ = some (.int .i64 (qta : Int)) := rkid_cell (j := 0) HKV.out Eta.out (HH.out.hw.trans (CS5.out.bel.mono HH.out.hw.size)))
           go_must (have k1 : (w8).cell? ⟨kb, ko + 1, none⟩ = some (.int .i64 (qtb : Int)) := rkid_cell (j := 1) HKV.out Etb.out (HH.out.hw.trans (CS5.out.bel.mono HH.out.hw.size))))
        | (have _t := tokT; go_simp; go_at_call 58; go_must (refine (rthen_any w8 (RO5.out.read (by decide)) (RB.out.read (by decide)) OPSB.out (by have := HNO.out; simp <;> omega) (by have := HNB.out; omega)).mono ?_); clear tokT _t
           rintro e w9 ⟨ov, rfl, hk1, hk2⟩
           go_must (have CS6 := Lib.hid (CS5.out.call hk2))
           go_must (have hsw9 := hk2.size)
           obtain ⟨aT, cT, rfl⟩ := hk1.form
           obtain ⟨nT, hnT⟩ : ∃ z, ((thenN oA oB)).length = z := ⟨_, rfl⟩
           rw [hnT] at hk1 ⊢
           go_must (have bT : nT ≤ 2100 := by rw [← hnT, thenN_len]; have := HNO.out; have := HNB.out; simp <;> omega)
           go_must (have HNT := Lib.hid hnT)
           go_must (have UT := Lib.hid hk1.block)
           go_must (have RT := Lib.hid hk1)
           clear hnT hk1
           clear hk2
           clear e0 x0 x1 x2 x3 le lx k0 k1
           go_must (have e0 : (w9).cell? ⟨be, 0, none⟩ = some (.slice (some ⟨b, off, none⟩) nl lc) := CS6.out.eb.cell rfl)
           go_must (have x0 : (w9).cell? ⟨bx, 0, none⟩ = some (.int .i64 (k : Int)) := CS6.out.xb.cell rfl)
           go_must (have x1 : (w9).cell? ⟨bx, 1, none⟩ = some (.string (txt s)) := CS6.out.xb.cell rfl)
           go_must (have x2 : (w9).cell? ⟨bx, 2, none⟩ = some (.int .i64 n) := CS6.out.xb.cell rfl)
           go_must (have x3 : (w9).cell? ⟨bx, 3, none⟩ = some (.slice (some ⟨kb, ko, none⟩) 2 kc) := CS6.out.xb.cell rfl)
           go_must (have le : be < (w9).heap.size := Nat.lt_of_lt_of_le CS6.out.le CS6.out.lB)
           go_must (have lx : bx < (w9).heap.size := Nat.lt_of_lt_of_le CS6.out.lx CS6.out.lB)
           go_must (have k0 : (w9).cell? ⟨kb, ko, none⟩ = some (.int .i64 (qta : Int)) := rkid_cell (j := 0) HKV.out Eta.out (HH.out.hw.trans (CS6.out.bel.mono HH.out.hw.size)))
           go_must (have k1 : (w9).cell? ⟨kb, ko + 1, none⟩ = some (.int .i64 (qtb : Int)) := rkid_cell (j := 1) HKV.out Etb.out (HH.out.hw.trans (CS6.out.bel.mono HH.out.hw.size))))
        | fail)
      all_goals
        go_wp2_with fail
        go_roundw
        case rel => exact Lib.hid (.inr ⟨rfl, RT.out.mono (by omega), CS6.out⟩)
        case measure => simp [intOf]
    · clear hrel
      have CSr := Lib.hid hq.2
      have hk1 := hq.1
      clear hq
      have hsr : bs ≤ wr.heap.size := CSr.out.lB
      obtain ⟨aO, cO, rfl⟩ := hk1.form
      obtain ⟨nO, hnO⟩ : ∃ z, (thenN oA oB).length = z := ⟨_, rfl⟩
      rw [hnO] at hk1 ⊢
      have bO : nO ≤ 2100 := by rw [← hnO, thenN_len, ← HOA.out, ← HOB.out]; have := cR_len f ta vs (m + 1); have := cR_len f tb vs 1; have := HSZ.out; simp only [sizeL] at this; omega
      have HNO := Lib.hid hnO
      have UO := Lib.hid hk1.block
      have RO := Lib.hid hk1
      clear hnO hk1
      clear e0 x0 x1 x2 x3 le lx k0 k1
      have e0 : (wr).cell? ⟨be, 0, none⟩ = some (.slice (some ⟨b, off, none⟩) nl lc) := CSr.out.eb.cell rfl
      have x0 : (wr).cell? ⟨bx, 0, none⟩ = some (.int .i64 (k : Int)) := CSr.out.xb.cell rfl
      have x1 : (wr).cell? ⟨bx, 1, none⟩ = some (.string (txt s)) := CSr.out.xb.cell rfl
      have x2 : (wr).cell? ⟨bx, 2, none⟩ = some (.int .i64 n) := CSr.out.xb.cell rfl
      have x3 : (wr).cell? ⟨bx, 3, none⟩ = some (.slice (some ⟨kb, ko, none⟩) 2 kc) := CSr.out.xb.cell rfl
      have le : be < (wr).heap.size := Nat.lt_of_lt_of_le CSr.out.le CSr.out.lB
      have lx : bx < (wr).heap.size := Nat.lt_of_lt_of_le CSr.out.lx CSr.out.lB
      have k0 : (wr).cell? ⟨kb, ko, none⟩ = some (.int .i64 (qta : Int)) := rkid_cell (j := 0) HKV.out Eta.out (HH.out.hw.trans (CSr.out.bel.mono HH.out.hw.size))
      have k1 : (wr).cell? ⟨kb, ko + 1, none⟩ = some (.int .i64 (qtb : Int)) := rkid_cell (j := 1) HKV.out Etb.out (HH.out.hw.trans (CSr.out.bel.mono HH.out.hw.size))
      have tokW : True := trivial
      have tokI : True := trivial
      go_upto_region 49 with (first
        | (have _t := tokW; go_at_call 56; go_must (refine (WK.out _).mono ?_); clear tokW _t
           rintro e w' ⟨rfl, nq, rfl⟩
           go_must (have CS4 := Lib.hid (CSr.out.drewN nq))
           go_must (have RO4 := Lib.hid (RO.out.drewN nq))
           go_must (have hswrq : wr.heap.size ≤ (wr.drewN nq).heap.size := Nat.le_refl _)
           clear e0 x0 x1 x2 x3 le lx k0 k1
           go_must (have e0 : ((wr.drewN nq)).cell? ⟨be, 0, none⟩ = some (.slice (some ⟨b, off, none⟩) nl lc) := CS4.out.eb.cell rfl)
           go_must (have x0 : ((wr.drewN nq)).cell? ⟨bx, 0, none⟩ = some (.int .i64 (k : Int)) := CS4.out.xb.cell rfl)
           go_must (have x1 : ((wr.drewN nq)).cell? ⟨bx, 1, none⟩ = some (.string (txt s)) := CS4.out.xb.cell rfl)
           go_must (have x2 : ((wr.drewN nq)).cell? ⟨bx, 2, none⟩ = some (.int .i64 n) := CS4.out.xb.cell rfl)
           go_must (have x3 : ((wr.drewN nq)).cell? ⟨bx, 3, none⟩ = some (.slice (some ⟨kb, ko, none⟩) 2 kc) := CS4.out.xb.cell rfl)
           go_must (have le : be < ((wr.drewN nq)).heap.size := Nat.lt_of_lt_of_le CS4.out.le CS4.out.lB)
           go_must (have lx : bx < ((wr.drewN nq)).heap.size := Nat.lt_of_lt_of_le CS4.out.lx CS4.out.lB)
           go_must (have k0 : ((wr.drewN nq)).cell? ⟨kb, ko, none⟩ = some (.int .i64 (qta : Int)) := rkid_cell (j := 0) HKV.out Eta.out (HH.out.hw.trans (CS4.out.bel.mono HH.out.hw.size)))
           go_must (have k1 : ((wr.drewN nq)).cell? ⟨kb, ko + 1, none⟩ = some (.int .i64 (qtb : Int)) := rkid_cell (j := 1) HKV.out Etb.out (HH.out.hw.trans (CS4.out.bel.mono HH.out.hw.size))))
        | (have _t := tokI; go_at_call 55; go_must (refine (IK.out _).mono ?_); clear tokI _t
           rintro e w8 ⟨rfl, hb⟩
           go_must (have CS5 := Lib.hid (CS4.out.call hb))
           go_must (have RO5 := Lib.hid (RO4.out.below hb (Nat.le_refl _)))
           go_must (have hsw8 := hb.size)
           clear hb
           clear e0 x0 x1 x2 x3 le lx k0 k1
           go_must (have e0 : (w8).cell? ⟨be, 0, none⟩ = some (.slice (some ⟨b, off, none⟩) nl lc) := CS5.out.eb.cell rfl)
           go_must (have x0 : (w8).cell? ⟨bx, 0, none⟩ = some (.int .i64 (k : Int)) := CS5.out.xb.cell rfl)
           go_must (have x1 : (w8).cell? ⟨bx, 1, none⟩ = some (.string (txt s)) := CS5.out.xb.cell rfl)
           go_must (have x2 : (w8).cell? ⟨bx, 2, none⟩ = some (.int .i64 n) := CS5.out.xb.cell rfl)
           go_must (have x3 : (w8).cell? ⟨bx, 3, none⟩ = some (.slice (some ⟨kb, ko, none⟩) 2 kc) := CS5.out.xb.cell rfl)
           go_must (have le : be < (w8).heap.size := Nat.lt_of_lt_of_le CS5.out.le CS5.out.lB)
           go_must (have lx : bx < (w8).heap.size := Nat.lt_of_lt_of_le CS5.out.lx CS5.out.lB)
           go_must (have k0 : (w8).cell? ⟨kb, ko, none⟩ = some (.int .i64 (qta : Int)) := rkid_cell (j := 0) HKV.out Eta.out (HH.out.hw.trans (CS5.out.bel.mono HH.out.hw.size)))
           go_must (have k1 : (w8).cell? ⟨kb, ko + 1, none⟩ = some (.int .i64 (qtb : Int)) := rkid_cell (j := 1) HKV.out Etb.out (HH.out.hw.trans (CS5.out.bel.mono HH.out.hw.size))))
        | fail)
      have CS6 := Lib.hid (CS5.out.alloc (.cells #[.int .i64 op0, .int .i64 0, .int .i64 0, .string ⟨#[]⟩] 46))
      have RO6 := Lib.hid (RO5.out.alloc (.cells #[.int .i64 op0, .int .i64 0, .int .i64 0, .string ⟨#[]⟩] 46))
      have By := Lib.hid (Blk.new w8 46 #[.int .i64 op0, .int .i64 0, .int .i64 0, .string ⟨#[]⟩])
      have hsW9 : w8.heap.size < (w8.alloc (.cells #[.int .i64 op0, .int .i64 0, .int .i64 0, .string ⟨#[]⟩] 46)).heap.size := by simp
      generalize w8.alloc (.cells #[.int .i64 op0, .int .i64 0, .int .i64 0, .string ⟨#[]⟩] 46) = W9 at *
      clear e0 x0 x1 x2 x3 le lx k0 k1
      have e0 : (W9).cell? ⟨be, 0, none⟩ = some (.slice (some ⟨b, off, none⟩) nl lc) := CS6.out.eb.cell rfl
      have x0 : (W9).cell? ⟨bx, 0, none⟩ = some (.int .i64 (k : Int)) := CS6.out.xb.cell rfl
      have x1 : (W9).cell? ⟨bx, 1, none⟩ = some (.string (txt s)) := CS6.out.xb.cell rfl
      have x2 : (W9).cell? ⟨bx, 2, none⟩ = some (.int .i64 n) := CS6.out.xb.cell rfl
      have x3 : (W9).cell? ⟨bx, 3, none⟩ = some (.slice (some ⟨kb, ko, none⟩) 2 kc) := CS6.out.xb.cell rfl
      have le : be < (W9).heap.size := Nat.lt_of_lt_of_le CS6.out.le CS6.out.lB
      have lx : bx < (W9).heap.size := Nat.lt_of_lt_of_le CS6.out.lx CS6.out.lB
      have k0 : (W9).cell? ⟨kb, ko, none⟩ = some (.int .i64 (qta : Int)) := rkid_cell (j := 0) HKV.out Eta.out (HH.out.hw.trans (CS6.out.bel.mono HH.out.hw.size))
      have k1 : (W9).cell? ⟨kb, ko + 1, none⟩ = some (.int .i64 (qtb : Int)) := rkid_cell (j := 1) HKV.out Etb.out (HH.out.hw.trans (CS6.out.bel.mono HH.out.hw.size))
      have y0 : (W9).cell? ⟨w8.heap.size, 0, none⟩ = some (.int .i64 op0) := By.out.cell rfl
      have y1 : (W9).cell? ⟨w8.heap.size, 1, none⟩ = some (.int .i64 0) := By.out.cell rfl
      have y2 : (W9).cell? ⟨w8.heap.size, 2, none⟩ = some (.int .i64 0) := By.out.cell rfl
      have y3 : (W9).cell? ⟨w8.heap.size, 3, none⟩ = some (.string ⟨#[]⟩) := By.out.cell rfl
      have ly : w8.heap.size < (W9).heap.size := By.out.lt
      have yf0 : (W9).frozen? ⟨w8.heap.size, 0, none⟩ = false := By.out.frozen 0
      have yf1 : (W9).frozen? ⟨w8.heap.size, 1, none⟩ = false := By.out.frozen 1
      have yf2 : (W9).frozen? ⟨w8.heap.size, 2, none⟩ = false := By.out.frozen 2
      have yf3 : (W9).frozen? ⟨w8.heap.size, 3, none⟩ = false := By.out.frozen 3
      go_upto_region 51 with fail
      have tokP : True := trivial
      go_wp2_with (first
        | (have _t := tokP
           at_builtin
           go_must (refine wpList_append_list rfl (.tmp 243) (.tmp 245) _ (by rfl) bs (W9.heap.size + 1) 46 jI _ 4 40 Tryd.underlying22 I.out.1 I.out.2.1 I.out.2.2.1 I.out.2.2.2 rfl (by omega) (R := Ins.Is) (l := thenN oA oB) (m := [⟨op0, 0, 0, ⟨#[]⟩⟩]) (.slice aO nO cO) (by rfl) (by exact (RO6.out.alloc (.cells #[.int .i64 op0, .int .i64 0, .int .i64 0, .string ⟨#[]⟩] 46))) (some ⟨W9.heap.size, 0, none⟩) 1 1 (by rfl) (SlR.new1 (w := W9) (e := 46) (g := W9.heap.size) rfl (x := [.int .i64 op0, .int .i64 0, .int .i64 0, .string ⟨#[]⟩]) rfl (R := Ins.Is) (y := ⟨op0, 0, 0, ⟨#[]⟩⟩) ⟨rfl, ins_ok hsm1 hsm2 (by omega) (by omega) (by omega) (by omega) nil_size⟩) (nO + 1) (by rw [HNO.out]) Ins.Is.one (by have := HNO.out; unfold maxLen; simp <;> omega) (by have := HNO.out; simp <;> omega) (by simp <;> omega) ?_)
           clear tokP _t
           intro aO' cO' w11 hown hgr
           go_must (have CS7 := Lib.hid ((CS6.out.alloc (.cells #[.int .i64 op0, .int .i64 0, .int .i64 0, .string ⟨#[]⟩] 46)).grown ((RO6.out.alloc (.cells #[.int .i64 op0, .int .i64 0, .int .i64 0, .string ⟨#[]⟩] 46)).mono (by have := CS6.out.lB; omega)) hgr))
           go_must (have RO7 := Lib.hid hown)
           go_must (have hsw11 : W9.heap.size < w11.heap.size := by have := hgr.size; simp at this; omega)
           clear hown hgr
           clear e0 x0 x1 x2 x3 le lx k0 k1 y0 y1 y2 y3 ly yf0 yf1 yf2 yf3
           go_must (have e0 : (w11).cell? ⟨be, 0, none⟩ = some (.slice (some ⟨b, off, none⟩) nl lc) := CS7.out.eb.cell rfl)
           go_must (have x0 : (w11).cell? ⟨bx, 0, none⟩ = some (.int .i64 (k : Int)) := CS7.out.xb.cell rfl)
           go_must (have x1 : (w11).cell? ⟨bx, 1, none⟩ = some (.string (txt s)) := CS7.out.xb.cell rfl)
           go_must (have x2 : (w11).cell? ⟨bx, 2, none⟩ = some (.int .i64 n) := CS7.out.xb.cell rfl)
           go_must (have x3 : (w11).cell? ⟨bx, 3, none⟩ = some (.slice (some ⟨kb, ko, none⟩) 2 kc) := CS7.out.xb.cell rfl)
           go_must (have le : be < (w11).heap.size := Nat.lt_of_lt_of_le CS7.out.le CS7.out.lB)
           go_must (have lx : bx < (w11).heap.size := Nat.lt_of_lt_of_le CS7.out.lx CS7.out.lB)
           go_must (have k0 : (w11).cell? ⟨kb, ko, none⟩ = some (.int .i64 (qta : Int)) := rkid_cell (j := 0) HKV.out Eta.out (HH.out.hw.trans (CS7.out.bel.mono HH.out.hw.size)))
           go_must (have k1 : (w11).cell? ⟨kb, ko + 1, none⟩ = some (.int .i64 (qtb : Int)) := rkid_cell (j := 1) HKV.out Etb.out (HH.out.hw.trans (CS7.out.bel.mono HH.out.hw.size))))
        | fail)
      go_ret
      rw [HCR.out]
      rw [shape_notext HND.out.1 (by omega)]
      exact rcodeK_of (RO7.out.mono (by omega)) CS7.out.bel
set_option maxRecDepth 100000 in
set_option maxHeartbeats 8000000 in
theorem rcode_named8 {l : List ND} {lv : Value} {W0 : World} {f p : Nat} {s : List Nat} {n m : Int} {ta : Tr} {vs : List (List Nat)} {W : World} (H : RPre l lv W0 (f + 1) (.node 8 s n [ta]) p vs m W) (ih : RCodeIs l lv W0 f) : Calls Tryd.prog 30 #[.agg #[lv], .int .i64 (p : Int), .int .i64 m] W (RCodeK W (cR (f + 1) (.node 8 s n [ta]) vs m)) := by
  obtain ⟨hd, hks⟩ := stands_node H.st
  obtain ⟨la, lc, rfl, _, _⟩ := H.hs.form
  have hpl := (List.getElem?_eq_some_iff.1 hd).1
  obtain ⟨nl, hnl⟩ : ∃ z, l.length = z := ⟨_, rfl⟩
  rw [hnl] at H hpl ⊢
  try rw [hnl] at ih
  have hB6 := H.hw.alloc H.hw.size (.cells #[.slice la nl lc] 38)
  have hhs := H.hs
  obtain ⟨b, off, x, rfl, hbB, hxl, ⟨kv, rfl, hkv⟩, hx⟩ := (hhs.below hB6).at_ hd
  obtain ⟨ka, kc, rfl, _, _⟩ := hkv.form
  simp only [List.length_map, places_len] at hkv hx
  simp only [List.length_cons, List.length_nil, Nat.zero_add, Nat.reduceAdd] at hkv hx
  have x0 := hx 0 _ rfl
  have x1 := hx 1 _ rfl
  have x2 := hx 2 _ rfl
  have x3 := hx 3 _ rfl
  simp only [Nat.add_zero] at x0
  have p0 : (0 : Int) ≤ (p : Int) := Int.natCast_nonneg _
  have p1 : (p : Int) < (nl : Int) := by omega
  have HH := Lib.hid H
  have HNL := Lib.hid hnl
  have HKV := Lib.hid hkv
  have m1 := H.m1
  have m2 : m ≤ 1000 := by have := H.mf; omega
  obtain ⟨jI, hi, hz, hsz, hby⟩ := info_parts info_Ins
  have I := Lib.hid (And.intro hi (And.intro hz (And.intro hsz hby)))
  clear hi hz hsz hby H hd hkv hx hxl hks hnl hhs hB6
  go_enter Tryd.func30, Tryd.ntmps30
  go_upto_region 1 with fail
  have e0 : (W.alloc (.cells #[(.slice (some ⟨b, off, none⟩) nl lc)] 38)).cell? ⟨W.heap.size, 0, none⟩ = some (.slice (some ⟨b, off, none⟩) nl lc) := (Blk.new W 38 #[(.slice (some ⟨b, off, none⟩) nl lc)]).cell rfl
  have lw0 : W.heap.size < (W.alloc (.cells #[(.slice (some ⟨b, off, none⟩) nl lc)] 38)).heap.size := (Blk.new W 38 #[(.slice (some ⟨b, off, none⟩) nl lc)]).lt
  generalize hW1 : W.alloc (.cells #[(.slice (some ⟨b, off, none⟩) nl lc)] 38) = W1 at *
  have HW1 := Lib.hid hW1
  clear hW1
  go_upto_region 4 with (first
    | (go_at_call 55; go_must (refine (rins_step _).mono ?_); rintro e w2 ⟨rfl, hb⟩; go_must (have HB := Lib.hid (CSt.make HW1.out.symm hb)); clear hb)
    | fail)
  clear x0 x1 x2 x3 e0 lw0
  have CS := Lib.hid (HB.out.alloc (.cells #[.int .i64 1, .int .i64 m, .int .i64 0, .string ⟨#[]⟩] 46))
  have SK := Lib.hid (Blk.new w2 46 #[.int .i64 1, .int .i64 m, .int .i64 0, .string ⟨#[]⟩])
  generalize hW3 : w2.alloc (.cells #[.int .i64 1, .int .i64 m, .int .i64 0, .string ⟨#[]⟩] 46) = W3 at *
  obtain ⟨be, hbe⟩ : ∃ z, W.heap.size = z := ⟨_, rfl⟩
  obtain ⟨bx, hbx⟩ : ∃ z, W1.heap.size = z := ⟨_, rfl⟩
  obtain ⟨bs, hbs⟩ : ∃ z, w2.heap.size = z := ⟨_, rfl⟩
  rw [hbe] at CS
  rw [hbx, hbs] at CS
  rw [hbs] at SK
  first | rw [hbe, hbx, hbs] | rw [hbx, hbe, hbs]
  clear HB hW3 hbx hbs HW1
  have e0 : (W3).cell? ⟨be, 0, none⟩ = some (.slice (some ⟨b, off, none⟩) nl lc) := CS.out.eb.cell rfl
  have x0 : (W3).cell? ⟨bx, 0, none⟩ = some (.int .i64 (8 : Int)) := CS.out.xb.cell rfl
  have x1 : (W3).cell? ⟨bx, 1, none⟩ = some (.string (txt s)) := CS.out.xb.cell rfl
  have x2 : (W3).cell? ⟨bx, 2, none⟩ = some (.int .i64 n) := CS.out.xb.cell rfl
  have x3 : (W3).cell? ⟨bx, 3, none⟩ = some (.slice ka 1 kc) := CS.out.xb.cell rfl
  have le : be < (W3).heap.size := Nat.lt_of_lt_of_le CS.out.le CS.out.lB
  have lx : bx < (W3).heap.size := Nat.lt_of_lt_of_le CS.out.lx CS.out.lB
  have HSZ : Hid (1 + sizeL [ta] ≤ 256) := Lib.hid (by have h1 := stands_size HH.out.st; have h2 := HH.out.hl; have := HNL.out; simp only [Tr.size] at h1; omega)
  obtain ⟨qta, sta, uta, eta⟩ := rkid HH.out.st HH.out.un (j := 0) (a := ta) rfl
  rw [if_neg (by omega)] at uta
  have Sta := Lib.hid sta
  have Vta := Lib.hid uta
  have Eta := Lib.hid eta
  clear sta uta eta
  obtain ⟨kb, ko, rfl⟩ := kid_form HKV.out (stands_node HH.out.st).2 (j := 0) (t := ta) rfl
  have wr1 : IntKind.i64.wrap (m + 1) = m + 1 := by rw [IntKind.wrap_i64]; omega
  have hs0 : bs ≤ W3.heap.size := CS.out.lB
  have hwl : W.heap.size ≤ bs := CS.out.wl
  obtain ⟨oA, hoA⟩ : ∃ z, cR f ta vs (m + 1) = z := ⟨_, rfl⟩
  have HOA := Lib.hid hoA
  have OPSA : Hid (∀ y ∈ oA, (1 ≤ y.op ∧ y.op ≤ 40) ∧ -1000000 ≤ y.arg ∧ y.arg ≤ 1000000) := Lib.hid (by rw [← hoA]; exact rcode_ops HH.out (j := 0) rfl (by simp) (by omega) (by omega))
  clear hoA
  have hcr : cR (f + 1) (.node 8 s n [ta]) vs m = oA ++ [⟨sameN 8, 0, 0, txt s⟩] := by rw [← HOA.out]; rfl
  have hop : opR (wordK 8) = sameN 8 := by rw [opR_wordK (by omega)]; unfold opK; rw [if_neg (by omega)]
  have hlk : decide (31 ≤ (8 : Int) ∧ (8 : Int) ≤ 34) = false := by simp; try omega
  have LK := Lib.hid (rloop_any (8 : Int))
  rw [hlk] at LK
  clear hlk
  have WK : Hid (∀ w, Calls Tryd.prog 56 #[.int .i64 (8 : Int)] w fun e w' => e = .returned (.string (wordK 8)) ∧ Quiet w w') := Lib.hid (fun w => rkind_any 8 (by omega) w)
  obtain ⟨wk, hwk⟩ : ∃ z, wordK 8 = z := ⟨_, rfl⟩
  rw [hwk] at WK hop
  have IK := Lib.hid (rins_any wk)
  rw [hop] at IK
  obtain ⟨op0, hop0⟩ : ∃ z, sameN 8 = z := ⟨_, rfl⟩
  have hsm : -9223372036854775808 ≤ op0 ∧ op0 ≤ 9223372036854775807 := by rw [← hop0]; exact sameN_rng (by omega)
  obtain ⟨hsm1, hsm2⟩ := hsm
  rw [hop0] at IK hcr
  have HCR := Lib.hid hcr
  clear hwk hop hop0 hcr
  have HND := Lib.hid HH.out.good.1
  clear e0 x0 x1 x2 x3 le lx
  have e0 : (W3).cell? ⟨be, 0, none⟩ = some (.slice (some ⟨b, off, none⟩) nl lc) := CS.out.eb.cell rfl
  have x0 : (W3).cell? ⟨bx, 0, none⟩ = some (.int .i64 (8 : Int)) := CS.out.xb.cell rfl
  have x1 : (W3).cell? ⟨bx, 1, none⟩ = some (.string (txt s)) := CS.out.xb.cell rfl
  have x2 : (W3).cell? ⟨bx, 2, none⟩ = some (.int .i64 n) := CS.out.xb.cell rfl
  have x3 : (W3).cell? ⟨bx, 3, none⟩ = some (.slice (some ⟨kb, ko, none⟩) 1 kc) := CS.out.xb.cell rfl
  have le : be < (W3).heap.size := Nat.lt_of_lt_of_le CS.out.le CS.out.lB
  have lx : bx < (W3).heap.size := Nat.lt_of_lt_of_le CS.out.lx CS.out.lB
  have k0 : (W3).cell? ⟨kb, ko, none⟩ = some (.int .i64 (qta : Int)) := rkid_cell (j := 0) HKV.out Eta.out (HH.out.hw.trans (CS.out.bel.mono HH.out.hw.size))
  go_upto_region 20 with fail
  go_still_tail 7, (by kernel_rfl)
  change wpList _ _ _ _ _ W3.drew
  have CS1 := Lib.hid (CS.out.drew)
  have hsW4 : W3.heap.size ≤ W3.drew.heap.size := Nat.le_refl _
  generalize W3.drew = W4 at *
  clear e0 x0 x1 x2 x3 le lx k0
  have e0 : (W4).cell? ⟨be, 0, none⟩ = some (.slice (some ⟨b, off, none⟩) nl lc) := CS1.out.eb.cell rfl
  have x0 : (W4).cell? ⟨bx, 0, none⟩ = some (.int .i64 (8 : Int)) := CS1.out.xb.cell rfl
  have x1 : (W4).cell? ⟨bx, 1, none⟩ = some (.string (txt s)) := CS1.out.xb.cell rfl
  have x2 : (W4).cell? ⟨bx, 2, none⟩ = some (.int .i64 n) := CS1.out.xb.cell rfl
  have x3 : (W4).cell? ⟨bx, 3, none⟩ = some (.slice (some ⟨kb, ko, none⟩) 1 kc) := CS1.out.xb.cell rfl
  have le : be < (W4).heap.size := Nat.lt_of_lt_of_le CS1.out.le CS1.out.lB
  have lx : bx < (W4).heap.size := Nat.lt_of_lt_of_le CS1.out.lx CS1.out.lB
  have k0 : (W4).cell? ⟨kb, ko, none⟩ = some (.int .i64 (qta : Int)) := rkid_cell (j := 0) HKV.out Eta.out (HH.out.hw.trans (CS1.out.bel.mono HH.out.hw.size))
  have tokA : True := trivial
  have tokL : True := trivial
  go_upto_region 44 with (first
    | (have _t := tokA; go_at_call 30; go_must (refine (ih ta qta vs (m + 1) _ (RPre.kid (j := 0) HH.out rfl Sta.out Vta.out (by simp) (by omega) (by omega) CS1.out.bel)).mono ?_); clear tokA _t
       rintro e w5 ⟨ov, rfl, hk1, hk2⟩
       go_must (have CS2 := Lib.hid (CS1.out.call hk2))
       rw [HOA.out] at hk1
       go_must (have hsw5 := hk2.size)
       obtain ⟨aA, cA, rfl⟩ := hk1.form
       obtain ⟨nA, hnA⟩ : ∃ z, (oA).length = z := ⟨_, rfl⟩
       rw [hnA] at hk1 ⊢
       go_must (have bA : nA ≤ 1024 := by rw [← hnA, ← HOA.out]; have := cR_len f ta vs (m + 1); have := HSZ.out; simp only [sizeL] at this; omega)
       go_must (have HNA := Lib.hid hnA)
       go_must (have UA := Lib.hid hk1.block)
       go_must (have RA := Lib.hid hk1)
       clear hnA hk1
       clear hk2
       clear e0 x0 x1 x2 x3 le lx k0
       go_must (have e0 : (w5).cell? ⟨be, 0, none⟩ = some (.slice (some ⟨b, off, none⟩) nl lc) := CS2.out.eb.cell rfl)
       go_must (have x0 : (w5).cell? ⟨bx, 0, none⟩ = some (.int .i64 (8 : Int)) := CS2.out.xb.cell rfl)
       go_must (have x1 : (w5).cell? ⟨bx, 1, none⟩ = some (.string (txt s)) := CS2.out.xb.cell rfl)
       go_must (have x2 : (w5).cell? ⟨bx, 2, none⟩ = some (.int .i64 n) := CS2.out.xb.cell rfl)
       go_must (have x3 : (w5).cell? ⟨bx, 3, none⟩ = some (.slice (some ⟨kb, ko, none⟩) 1 kc) := CS2.out.xb.cell rfl)
       go_must (have le : be < (w5).heap.size := Nat.lt_of_lt_of_le CS2.out.le CS2.out.lB)
       go_must (have lx : bx < (w5).heap.size := Nat.lt_of_lt_of_le CS2.out.lx CS2.out.lB)
       go_must (have k0 : (w5).cell? ⟨kb, ko, none⟩ = some (.int .i64 (qta : Int)) := rkid_cell (j := 0) HKV.out Eta.out (HH.out.hw.trans (CS2.out.bel.mono HH.out.hw.size))))
    | (have _t := tokL; go_at_call 59; go_must (refine (LK.out _).mono ?_); clear tokL _t
       rintro e w' ⟨rfl, nq, rfl⟩
       go_must (have CS3 := Lib.hid (CS2.out.drewN nq))
       go_must (have RA3 := Lib.hid (RA.out.drewN nq))
       go_must (have hsw5q : w5.heap.size ≤ (w5.drewN nq).heap.size := Nat.le_refl _)
       clear e0 x0 x1 x2 x3 le lx k0
       go_must (have e0 : ((w5.drewN nq)).cell? ⟨be, 0, none⟩ = some (.slice (some ⟨b, off, none⟩) nl lc) := CS3.out.eb.cell rfl)
       go_must (have x0 : ((w5.drewN nq)).cell? ⟨bx, 0, none⟩ = some (.int .i64 (8 : Int)) := CS3.out.xb.cell rfl)
       go_must (have x1 : ((w5.drewN nq)).cell? ⟨bx, 1, none⟩ = some (.string (txt s)) := CS3.out.xb.cell rfl)
       go_must (have x2 : ((w5.drewN nq)).cell? ⟨bx, 2, none⟩ = some (.int .i64 n) := CS3.out.xb.cell rfl)
       go_must (have x3 : ((w5.drewN nq)).cell? ⟨bx, 3, none⟩ = some (.slice (some ⟨kb, ko, none⟩) 1 kc) := CS3.out.xb.cell rfl)
       go_must (have le : be < ((w5.drewN nq)).heap.size := Nat.lt_of_lt_of_le CS3.out.le CS3.out.lB)
       go_must (have lx : bx < ((w5.drewN nq)).heap.size := Nat.lt_of_lt_of_le CS3.out.lx CS3.out.lB)
       go_must (have k0 : ((w5.drewN nq)).cell? ⟨kb, ko, none⟩ = some (.int .i64 (qta : Int)) := rkid_cell (j := 0) HKV.out Eta.out (HH.out.hw.trans (CS3.out.bel.mono HH.out.hw.size))))
    | fail)
  generalize (w5.drewN nq) = W6 at *
  go_wp2_with fail
  go_loopw [11, 21] (fun v11 v21 wr => v21 = .int .i64 1 ∧ Hid (Own1 wr bs 46 4 Ins.Is v11 (oA) ∧ CSt W wr (.slice (some ⟨b, off, none⟩) nl lc) be bx #[.int .i64 (8 : Int), .string (txt s), .int .i64 n, .slice (some ⟨kb, ko, none⟩) 1 kc] bs)) (fun _ v21 _ => 2 - (intOf v21).toNat)
  case atStart => exact ⟨rfl, Lib.hid ⟨(RA3.out.mono (by omega)), CS3.out⟩⟩
  case round =>
    obtain ⟨rfl, hq0⟩ := hrel
    have hq := hq0.out
    clear hq0
    have CSr := Lib.hid hq.2
    have hk1 := hq.1
    clear hq
    have hsr : bs ≤ wr.heap.size := CSr.out.lB
    obtain ⟨aO, cO, rfl⟩ := hk1.form
    obtain ⟨nO, hnO⟩ : ∃ z, (oA).length = z := ⟨_, rfl⟩
    rw [hnO] at hk1 ⊢
    have bO : nO ≤ 1024 := by rw [← hnO, ← HOA.out]; have := cR_len f ta vs (m + 1); have := HSZ.out; simp only [sizeL] at this; omega
    have HNO := Lib.hid hnO
    have UO := Lib.hid hk1.block
    have RO := Lib.hid hk1
    clear hnO hk1
    clear e0 x0 x1 x2 x3 le lx k0
    have e0 : (wr).cell? ⟨be, 0, none⟩ = some (.slice (some ⟨b, off, none⟩) nl lc) := CSr.out.eb.cell rfl
    have x0 : (wr).cell? ⟨bx, 0, none⟩ = some (.int .i64 (8 : Int)) := CSr.out.xb.cell rfl
    have x1 : (wr).cell? ⟨bx, 1, none⟩ = some (.string (txt s)) := CSr.out.xb.cell rfl
    have x2 : (wr).cell? ⟨bx, 2, none⟩ = some (.int .i64 n) := CSr.out.xb.cell rfl
    have x3 : (wr).cell? ⟨bx, 3, none⟩ = some (.slice (some ⟨kb, ko, none⟩) 1 kc) := CSr.out.xb.cell rfl
    have le : be < (wr).heap.size := Nat.lt_of_lt_of_le CSr.out.le CSr.out.lB
    have lx : bx < (wr).heap.size := Nat.lt_of_lt_of_le CSr.out.lx CSr.out.lB
    have k0 : (wr).cell? ⟨kb, ko, none⟩ = some (.int .i64 (qta : Int)) := rkid_cell (j := 0) HKV.out Eta.out (HH.out.hw.trans (CSr.out.bel.mono HH.out.hw.size))
    have tokW : True := trivial
    have tokI : True := trivial
    go_upto_region 49 with (first
      | (have _t := tokW; go_at_call 56; go_must (refine (WK.out _).mono ?_); clear tokW _t
         rintro e w' ⟨rfl, nq, rfl⟩
         go_must (have CS4 := Lib.hid (CSr.out.drewN nq))
         go_must (have RO4 := Lib.hid (RO.out.drewN nq))
         go_must (have hswrq : wr.heap.size ≤ (wr.drewN nq).heap.size := Nat.le_refl _)
         clear e0 x0 x1 x2 x3 le lx k0
         go_must (have e0 : ((wr.drewN nq)).cell? ⟨be, 0, none⟩ = some (.slice (some ⟨b, off, none⟩) nl lc) := CS4.out.eb.cell rfl)
         go_must (have x0 : ((wr.drewN nq)).cell? ⟨bx, 0, none⟩ = some (.int .i64 (8 : Int)) := CS4.out.xb.cell rfl)
         go_must (have x1 : ((wr.drewN nq)).cell? ⟨bx, 1, none⟩ = some (.string (txt s)) := CS4.out.xb.cell rfl)
         go_must (have x2 : ((wr.drewN nq)).cell? ⟨bx, 2, none⟩ = some (.int .i64 n) := CS4.out.xb.cell rfl)
         go_must (have x3 : ((wr.drewN nq)).cell? ⟨bx, 3, none⟩ = some (.slice (some ⟨kb, ko, none⟩) 1 kc) := CS4.out.xb.cell rfl)
         go_must (have le : be < ((wr.drewN nq)).heap.size := Nat.lt_of_lt_of_le CS4.out.le CS4.out.lB)
         go_must (have lx : bx < ((wr.drewN nq)).heap.size := Nat.lt_of_lt_of_le CS4.out.lx CS4.out.lB)
         go_must (have k0 : ((wr.drewN nq)).cell? ⟨kb, ko, none⟩ = some (.int .i64 (qta : Int)) := rkid_cell (j := 0) HKV.out Eta.out (HH.out.hw.trans (CS4.out.bel.mono HH.out.hw.size))))
      | (have _t := tokI; go_at_call 55; go_must (refine (IK.out _).mono ?_); clear tokI _t
         rintro e w8 ⟨rfl, hb⟩
         go_must (have CS5 := Lib.hid (CS4.out.call hb))
         go_must (have RO5 := Lib.hid (RO4.out.below hb (Nat.le_refl _)))
         go_must (have hsw8 := hb.size)
         clear hb
         clear e0 x0 x1 x2 x3 le lx k0
         go_must (have e0 : (w8).cell? ⟨be, 0, none⟩ = some (.slice (some ⟨b, off, none⟩) nl lc) := CS5.out.eb.cell rfl)
         go_must (have x0 : (w8).cell? ⟨bx, 0, none⟩ = some (.int .i64 (8 : Int)) := CS5.out.xb.cell rfl)
         go_must (have x1 : (w8).cell? ⟨bx, 1, none⟩ = some (.string (txt s)) := CS5.out.xb.cell rfl)
         go_must (have x2 : (w8).cell? ⟨bx, 2, none⟩ = some (.int .i64 n) := CS5.out.xb.cell rfl)
         go_must (have x3 : (w8).cell? ⟨bx, 3, none⟩ = some (.slice (some ⟨kb, ko, none⟩) 1 kc) := CS5.out.xb.cell rfl)
         go_must (have le : be < (w8).heap.size := Nat.lt_of_lt_of_le CS5.out.le CS5.out.lB)
         go_must (have lx : bx < (w8).heap.size := Nat.lt_of_lt_of_le CS5.out.lx CS5.out.lB)
         go_must (have k0 : (w8).cell? ⟨kb, ko, none⟩ = some (.int .i64 (qta : Int)) := rkid_cell (j := 0) HKV.out Eta.out (HH.out.hw.trans (CS5.out.bel.mono HH.out.hw.size))))
      | fail)
    have CS6 := Lib.hid (CS5.out.alloc (.cells #[.int .i64 op0, .int .i64 0, .int .i64 0, .string ⟨#[]⟩] 46))
    have RO6 := Lib.hid (RO5.out.alloc (.cells #[.int .i64 op0, .int .i64 0, .int .i64 0, .string ⟨#[]⟩] 46))
    have By := Lib.hid (Blk.new w8 46 #[.int .i64 op0, .int .i64 0, .int .i64 0, .string ⟨#[]⟩])
    have hsW9 : w8.heap.size < (w8.alloc (.cells #[.int .i64 op0, .int .i64 0, .int .i64 0, .string ⟨#[]⟩] 46)).heap.size := by simp
    generalize w8.alloc (.cells #[.int .i64 op0, .int .i64 0, .int .i64 0, .string ⟨#[]⟩] 46) = W9 at *
    clear e0 x0 x1 x2 x3 le lx k0
    have e0 : (W9).cell? ⟨be, 0, none⟩ = some (.slice (some ⟨b, off, none⟩) nl lc) := CS6.out.eb.cell rfl
    have x0 : (W9).cell? ⟨bx, 0, none⟩ = some (.int .i64 (8 : Int)) := CS6.out.xb.cell rfl
    have x1 : (W9).cell? ⟨bx, 1, none⟩ = some (.string (txt s)) := CS6.out.xb.cell rfl
    have x2 : (W9).cell? ⟨bx, 2, none⟩ = some (.int .i64 n) := CS6.out.xb.cell rfl
    have x3 : (W9).cell? ⟨bx, 3, none⟩ = some (.slice (some ⟨kb, ko, none⟩) 1 kc) := CS6.out.xb.cell rfl
    have le : be < (W9).heap.size := Nat.lt_of_lt_of_le CS6.out.le CS6.out.lB
    have lx : bx < (W9).heap.size := Nat.lt_of_lt_of_le CS6.out.lx CS6.out.lB
    have k0 : (W9).cell? ⟨kb, ko, none⟩ = some (.int .i64 (qta : Int)) := rkid_cell (j := 0) HKV.out Eta.out (HH.out.hw.trans (CS6.out.bel.mono HH.out.hw.size))
    have y0 : (W9).cell? ⟨w8.heap.size, 0, none⟩ = some (.int .i64 op0) := By.out.cell rfl
    have y1 : (W9).cell? ⟨w8.heap.size, 1, none⟩ = some (.int .i64 0) := By.out.cell rfl
    have y2 : (W9).cell? ⟨w8.heap.size, 2, none⟩ = some (.int .i64 0) := By.out.cell rfl
    have y3 : (W9).cell? ⟨w8.heap.size, 3, none⟩ = some (.string ⟨#[]⟩) := By.out.cell rfl
    have ly : w8.heap.size < (W9).heap.size := By.out.lt
    have yf0 : (W9).frozen? ⟨w8.heap.size, 0, none⟩ = false := By.out.frozen 0
    have yf1 : (W9).frozen? ⟨w8.heap.size, 1, none⟩ = false := By.out.frozen 1
    have yf2 : (W9).frozen? ⟨w8.heap.size, 2, none⟩ = false := By.out.frozen 2
    have yf3 : (W9).frozen? ⟨w8.heap.size, 3, none⟩ = false := By.out.frozen 3
    go_upto_region 51 with fail
    generalize hW10 : World.setCell _ _ _ = W10
    have CS7 : Hid (CSt W W10 (.slice (some ⟨b, off, none⟩) nl lc) be bx #[.int .i64 (8 : Int), .string (txt s), .int .i64 n, .slice (some ⟨kb, ko, none⟩) 1 kc] bs) := Lib.hid (by rw [← hW10]; exact (CS6.out.set_ (g := w8.heap.size) (by omega) _ _))
    have RO7 : Hid (Own1 W10 bs 46 4 Ins.Is (.slice aO nO cO) oA) := Lib.hid (by rw [← hW10]; exact (RO6.out.setOther (p := ⟨w8.heap.size, 3, none⟩) (fun e => by have := UO.out (w8.heap.size) e; omega) _))
    have By7 : Hid (Blk W10 w8.heap.size 46 #[.int .i64 op0, .int .i64 0, .int .i64 0, .string (txt s)]) := Lib.hid (by rw [← hW10]; have := (By.out.set_ 3 (.string (txt s))); simpa using this)
    have hsW10 : W9.heap.size ≤ W10.heap.size := by rw [← hW10]; simp
    clear hW10
    clear e0 x0 x1 x2 x3 le lx k0 y0 y1 y2 y3 ly yf0 yf1 yf2 yf3
    have e0 : (W10).cell? ⟨be, 0, none⟩ = some (.slice (some ⟨b, off, none⟩) nl lc) := CS7.out.eb.cell rfl
    have x0 : (W10).cell? ⟨bx, 0, none⟩ = some (.int .i64 (8 : Int)) := CS7.out.xb.cell rfl
    have x1 : (W10).cell? ⟨bx, 1, none⟩ = some (.string (txt s)) := CS7.out.xb.cell rfl
    have x2 : (W10).cell? ⟨bx, 2, none⟩ = some (.int .i64 n) := CS7.out.xb.cell rfl
    have x3 : (W10).cell? ⟨bx, 3, none⟩ = some (.slice (some ⟨kb, ko, none⟩) 1 kc) := CS7.out.xb.cell rfl
    have le : be < (W10).heap.size := Nat.lt_of_lt_of_le CS7.out.le CS7.out.lB
    have lx : bx < (W10).heap.size := Nat.lt_of_lt_of_le CS7.out.lx CS7.out.lB
    have k0 : (W10).cell? ⟨kb, ko, none⟩ = some (.int .i64 (qta : Int)) := rkid_cell (j := 0) HKV.out Eta.out (HH.out.hw.trans (CS7.out.bel.mono HH.out.hw.size))
    have y0 : (W10).cell? ⟨w8.heap.size, 0, none⟩ = some (.int .i64 op0) := By7.out.cell rfl
    have y1 : (W10).cell? ⟨w8.heap.size, 1, none⟩ = some (.int .i64 0) := By7.out.cell rfl
    have y2 : (W10).cell? ⟨w8.heap.size, 2, none⟩ = some (.int .i64 0) := By7.out.cell rfl
    have y3 : (W10).cell? ⟨w8.heap.size, 3, none⟩ = some (.string (txt s)) := By7.out.cell rfl
    have ly : w8.heap.size < (W10).heap.size := By7.out.lt
    have yf0 : (W10).frozen? ⟨w8.heap.size, 0, none⟩ = false := By7.out.frozen 0
    have yf1 : (W10).frozen? ⟨w8.heap.size, 1, none⟩ = false := By7.out.frozen 1
    have yf2 : (W10).frozen? ⟨w8.heap.size, 2, none⟩ = false := By7.out.frozen 2
    have yf3 : (W10).frozen? ⟨w8.heap.size, 3, none⟩ = false := By7.out.frozen 3
    have tokP : True := trivial
    go_wp2_with (first
      | (have _t := tokP
         at_builtin
         go_must (refine wpList_append_list rfl (.tmp 243) (.tmp 245) _ (by rfl) bs (W10.heap.size + 1) 46 jI _ 4 40 Tryd.underlying22 I.out.1 I.out.2.1 I.out.2.2.1 I.out.2.2.2 rfl (by omega) (R := Ins.Is) (l := oA) (m := [⟨op0, 0, 0, txt s⟩]) (.slice aO nO cO) (by rfl) (by exact (RO7.out.alloc (.cells #[.int .i64 op0, .int .i64 0, .int .i64 0, .string (txt s)] 46))) (some ⟨W10.heap.size, 0, none⟩) 1 1 (by rfl) (SlR.new1 (w := W10) (e := 46) (g := W10.heap.size) rfl (x := [.int .i64 op0, .int .i64 0, .int .i64 0, .string (txt s)]) rfl (R := Ins.Is) (y := ⟨op0, 0, 0, txt s⟩) ⟨rfl, ins_ok hsm1 hsm2 (by omega) (by omega) (by omega) (by omega) (by rw [txt_size]; have := shape_len HND.out.1; unfold maxLen; omega)⟩) (nO + 1) (by rw [HNO.out]) Ins.Is.one (by have := HNO.out; unfold maxLen; simp <;> omega) (by have := HNO.out; simp <;> omega) (by simp <;> omega) ?_)
         clear tokP _t
         intro aO' cO' w11 hown hgr
         go_must (have CS8 := Lib.hid ((CS7.out.alloc (.cells #[.int .i64 op0, .int .i64 0, .int .i64 0, .string (txt s)] 46)).grown ((RO7.out.alloc (.cells #[.int .i64 op0, .int .i64 0, .int .i64 0, .string (txt s)] 46)).mono (by have := CS7.out.lB; omega)) hgr))
         go_must (have RO8 := Lib.hid hown)
         go_must (have hsw11 : W10.heap.size < w11.heap.size := by have := hgr.size; simp at this; omega)
         clear hown hgr
         clear e0 x0 x1 x2 x3 le lx k0 y0 y1 y2 y3 ly yf0 yf1 yf2 yf3
         go_must (have e0 : (w11).cell? ⟨be, 0, none⟩ = some (.slice (some ⟨b, off, none⟩) nl lc) := CS8.out.eb.cell rfl)
         go_must (have x0 : (w11).cell? ⟨bx, 0, none⟩ = some (.int .i64 (8 : Int)) := CS8.out.xb.cell rfl)
         go_must (have x1 : (w11).cell? ⟨bx, 1, none⟩ = some (.string (txt s)) := CS8.out.xb.cell rfl)
         go_must (have x2 : (w11).cell? ⟨bx, 2, none⟩ = some (.int .i64 n) := CS8.out.xb.cell rfl)
         go_must (have x3 : (w11).cell? ⟨bx, 3, none⟩ = some (.slice (some ⟨kb, ko, none⟩) 1 kc) := CS8.out.xb.cell rfl)
         go_must (have le : be < (w11).heap.size := Nat.lt_of_lt_of_le CS8.out.le CS8.out.lB)
         go_must (have lx : bx < (w11).heap.size := Nat.lt_of_lt_of_le CS8.out.lx CS8.out.lB)
         go_must (have k0 : (w11).cell? ⟨kb, ko, none⟩ = some (.int .i64 (qta : Int)) := rkid_cell (j := 0) HKV.out Eta.out (HH.out.hw.trans (CS8.out.bel.mono HH.out.hw.size))))
      | fail)
    go_ret
    rw [HCR.out]
    exact rcodeK_of (RO8.out.mono (by omega)) CS8.out.bel
set_option maxRecDepth 100000 in
set_option maxHeartbeats 8000000 in
theorem rcode_named9 {l : List ND} {lv : Value} {W0 : World} {f p : Nat} {s : List Nat} {n m : Int} {ta : Tr} {vs : List (List Nat)} {W : World} (H : RPre l lv W0 (f + 1) (.node 9 s n [ta]) p vs m W) (ih : RCodeIs l lv W0 f) : Calls Tryd.prog 30 #[.agg #[lv], .int .i64 (p : Int), .int .i64 m] W (RCodeK W (cR (f + 1) (.node 9 s n [ta]) vs m)) := by
  obtain ⟨hd, hks⟩ := stands_node H.st
  obtain ⟨la, lc, rfl, _, _⟩ := H.hs.form
  have hpl := (List.getElem?_eq_some_iff.1 hd).1
  obtain ⟨nl, hnl⟩ : ∃ z, l.length = z := ⟨_, rfl⟩
  rw [hnl] at H hpl ⊢
  try rw [hnl] at ih
  have hB6 := H.hw.alloc H.hw.size (.cells #[.slice la nl lc] 38)
  have hhs := H.hs
  obtain ⟨b, off, x, rfl, hbB, hxl, ⟨kv, rfl, hkv⟩, hx⟩ := (hhs.below hB6).at_ hd
  obtain ⟨ka, kc, rfl, _, _⟩ := hkv.form
  simp only [List.length_map, places_len] at hkv hx
  simp only [List.length_cons, List.length_nil, Nat.zero_add, Nat.reduceAdd] at hkv hx
  have x0 := hx 0 _ rfl
  have x1 := hx 1 _ rfl
  have x2 := hx 2 _ rfl
  have x3 := hx 3 _ rfl
  simp only [Nat.add_zero] at x0
  have p0 : (0 : Int) ≤ (p : Int) := Int.natCast_nonneg _
  have p1 : (p : Int) < (nl : Int) := by omega
  have HH := Lib.hid H
  have HNL := Lib.hid hnl
  have HKV := Lib.hid hkv
  have m1 := H.m1
  have m2 : m ≤ 1000 := by have := H.mf; omega
  obtain ⟨jI, hi, hz, hsz, hby⟩ := info_parts info_Ins
  have I := Lib.hid (And.intro hi (And.intro hz (And.intro hsz hby)))
  clear hi hz hsz hby H hd hkv hx hxl hks hnl hhs hB6
  go_enter Tryd.func30, Tryd.ntmps30
  go_upto_region 1 with fail
  have e0 : (W.alloc (.cells #[(.slice (some ⟨b, off, none⟩) nl lc)] 38)).cell? ⟨W.heap.size, 0, none⟩ = some (.slice (some ⟨b, off, none⟩) nl lc) := (Blk.new W 38 #[(.slice (some ⟨b, off, none⟩) nl lc)]).cell rfl
  have lw0 : W.heap.size < (W.alloc (.cells #[(.slice (some ⟨b, off, none⟩) nl lc)] 38)).heap.size := (Blk.new W 38 #[(.slice (some ⟨b, off, none⟩) nl lc)]).lt
  generalize hW1 : W.alloc (.cells #[(.slice (some ⟨b, off, none⟩) nl lc)] 38) = W1 at *
  have HW1 := Lib.hid hW1
  clear hW1
  go_upto_region 4 with (first
    | (go_at_call 55; go_must (refine (rins_step _).mono ?_); rintro e w2 ⟨rfl, hb⟩; go_must (have HB := Lib.hid (CSt.make HW1.out.symm hb)); clear hb)
    | fail)
  clear x0 x1 x2 x3 e0 lw0
  have CS := Lib.hid (HB.out.alloc (.cells #[.int .i64 1, .int .i64 m, .int .i64 0, .string ⟨#[]⟩] 46))
  have SK := Lib.hid (Blk.new w2 46 #[.int .i64 1, .int .i64 m, .int .i64 0, .string ⟨#[]⟩])
  generalize hW3 : w2.alloc (.cells #[.int .i64 1, .int .i64 m, .int .i64 0, .string ⟨#[]⟩] 46) = W3 at *
  obtain ⟨be, hbe⟩ : ∃ z, W.heap.size = z := ⟨_, rfl⟩
  obtain ⟨bx, hbx⟩ : ∃ z, W1.heap.size = z := ⟨_, rfl⟩
  obtain ⟨bs, hbs⟩ : ∃ z, w2.heap.size = z := ⟨_, rfl⟩
  rw [hbe] at CS
  rw [hbx, hbs] at CS
  rw [hbs] at SK
  first | rw [hbe, hbx, hbs] | rw [hbx, hbe, hbs]
  clear HB hW3 hbx hbs HW1
  have e0 : (W3).cell? ⟨be, 0, none⟩ = some (.slice (some ⟨b, off, none⟩) nl lc) := CS.out.eb.cell rfl
  have x0 : (W3).cell? ⟨bx, 0, none⟩ = some (.int .i64 (9 : Int)) := CS.out.xb.cell rfl
  have x1 : (W3).cell? ⟨bx, 1, none⟩ = some (.string (txt s)) := CS.out.xb.cell rfl
  have x2 : (W3).cell? ⟨bx, 2, none⟩ = some (.int .i64 n) := CS.out.xb.cell rfl
  have x3 : (W3).cell? ⟨bx, 3, none⟩ = some (.slice ka 1 kc) := CS.out.xb.cell rfl
  have le : be < (W3).heap.size := Nat.lt_of_lt_of_le CS.out.le CS.out.lB
  have lx : bx < (W3).heap.size := Nat.lt_of_lt_of_le CS.out.lx CS.out.lB
  have HSZ : Hid (1 + sizeL [ta] ≤ 256) := Lib.hid (by have h1 := stands_size HH.out.st; have h2 := HH.out.hl; have := HNL.out; simp only [Tr.size] at h1; omega)
  obtain ⟨qta, sta, uta, eta⟩ := rkid HH.out.st HH.out.un (j := 0) (a := ta) rfl
  rw [if_neg (by omega)] at uta
  have Sta := Lib.hid sta
  have Vta := Lib.hid uta
  have Eta := Lib.hid eta
  clear sta uta eta
  obtain ⟨kb, ko, rfl⟩ := kid_form HKV.out (stands_node HH.out.st).2 (j := 0) (t := ta) rfl
  have wr1 : IntKind.i64.wrap (m + 1) = m + 1 := by rw [IntKind.wrap_i64]; omega
  have hs0 : bs ≤ W3.heap.size := CS.out.lB
  have hwl : W.heap.size ≤ bs := CS.out.wl
  obtain ⟨oA, hoA⟩ : ∃ z, cR f ta vs (m + 1) = z := ⟨_, rfl⟩
  have HOA := Lib.hid hoA
  have OPSA : Hid (∀ y ∈ oA, (1 ≤ y.op ∧ y.op ≤ 40) ∧ -1000000 ≤ y.arg ∧ y.arg ≤ 1000000) := Lib.hid (by rw [← hoA]; exact rcode_ops HH.out (j := 0) rfl (by simp) (by omega) (by omega))
  clear hoA
  have hcr : cR (f + 1) (.node 9 s n [ta]) vs m = oA ++ [⟨sameN 9, 0, 0, txt s⟩] := by rw [← HOA.out]; rfl
  have hop : opR (wordK 9) = sameN 9 := by rw [opR_wordK (by omega)]; unfold opK; rw [if_neg (by omega)]
  have hlk : decide (31 ≤ (9 : Int) ∧ (9 : Int) ≤ 34) = false := by simp; try omega
  have LK := Lib.hid (rloop_any (9 : Int))
  rw [hlk] at LK
  clear hlk
  have WK : Hid (∀ w, Calls Tryd.prog 56 #[.int .i64 (9 : Int)] w fun e w' => e = .returned (.string (wordK 9)) ∧ Quiet w w') := Lib.hid (fun w => rkind_any 9 (by omega) w)
  obtain ⟨wk, hwk⟩ : ∃ z, wordK 9 = z := ⟨_, rfl⟩
  rw [hwk] at WK hop
  have IK := Lib.hid (rins_any wk)
  rw [hop] at IK
  obtain ⟨op0, hop0⟩ : ∃ z, sameN 9 = z := ⟨_, rfl⟩
  have hsm : -9223372036854775808 ≤ op0 ∧ op0 ≤ 9223372036854775807 := by rw [← hop0]; exact sameN_rng (by omega)
  obtain ⟨hsm1, hsm2⟩ := hsm
  rw [hop0] at IK hcr
  have HCR := Lib.hid hcr
  clear hwk hop hop0 hcr
  have HND := Lib.hid HH.out.good.1
  clear e0 x0 x1 x2 x3 le lx
  have e0 : (W3).cell? ⟨be, 0, none⟩ = some (.slice (some ⟨b, off, none⟩) nl lc) := CS.out.eb.cell rfl
  have x0 : (W3).cell? ⟨bx, 0, none⟩ = some (.int .i64 (9 : Int)) := CS.out.xb.cell rfl
  have x1 : (W3).cell? ⟨bx, 1, none⟩ = some (.string (txt s)) := CS.out.xb.cell rfl
  have x2 : (W3).cell? ⟨bx, 2, none⟩ = some (.int .i64 n) := CS.out.xb.cell rfl
  have x3 : (W3).cell? ⟨bx, 3, none⟩ = some (.slice (some ⟨kb, ko, none⟩) 1 kc) := CS.out.xb.cell rfl
  have le : be < (W3).heap.size := Nat.lt_of_lt_of_le CS.out.le CS.out.lB
  have lx : bx < (W3).heap.size := Nat.lt_of_lt_of_le CS.out.lx CS.out.lB
  have k0 : (W3).cell? ⟨kb, ko, none⟩ = some (.int .i64 (qta : Int)) := rkid_cell (j := 0) HKV.out Eta.out (HH.out.hw.trans (CS.out.bel.mono HH.out.hw.size))
  go_upto_region 20 with fail
  go_still_tail 7, (by kernel_rfl)
  change wpList _ _ _ _ _ W3.drew
  have CS1 := Lib.hid (CS.out.drew)
  have hsW4 : W3.heap.size ≤ W3.drew.heap.size := Nat.le_refl _
  generalize W3.drew = W4 at *
  clear e0 x0 x1 x2 x3 le lx k0
  have e0 : (W4).cell? ⟨be, 0, none⟩ = some (.slice (some ⟨b, off, none⟩) nl lc) := CS1.out.eb.cell rfl
  have x0 : (W4).cell? ⟨bx, 0, none⟩ = some (.int .i64 (9 : Int)) := CS1.out.xb.cell rfl
  have x1 : (W4).cell? ⟨bx, 1, none⟩ = some (.string (txt s)) := CS1.out.xb.cell rfl
  have x2 : (W4).cell? ⟨bx, 2, none⟩ = some (.int .i64 n) := CS1.out.xb.cell rfl
  have x3 : (W4).cell? ⟨bx, 3, none⟩ = some (.slice (some ⟨kb, ko, none⟩) 1 kc) := CS1.out.xb.cell rfl
  have le : be < (W4).heap.size := Nat.lt_of_lt_of_le CS1.out.le CS1.out.lB
  have lx : bx < (W4).heap.size := Nat.lt_of_lt_of_le CS1.out.lx CS1.out.lB
  have k0 : (W4).cell? ⟨kb, ko, none⟩ = some (.int .i64 (qta : Int)) := rkid_cell (j := 0) HKV.out Eta.out (HH.out.hw.trans (CS1.out.bel.mono HH.out.hw.size))
  have tokA : True := trivial
  have tokL : True := trivial
  go_upto_region 44 with (first
    | (have _t := tokA; go_at_call 30; go_must (refine (ih ta qta vs (m + 1) _ (RPre.kid (j := 0) HH.out rfl Sta.out Vta.out (by simp) (by omega) (by omega) CS1.out.bel)).mono ?_); clear tokA _t
       rintro e w5 ⟨ov, rfl, hk1, hk2⟩
       go_must (have CS2 := Lib.hid (CS1.out.call hk2))
       rw [HOA.out] at hk1
       go_must (have hsw5 := hk2.size)
       obtain ⟨aA, cA, rfl⟩ := hk1.form
       obtain ⟨nA, hnA⟩ : ∃ z, (oA).length = z := ⟨_, rfl⟩
       rw [hnA] at hk1 ⊢
       go_must (have bA : nA ≤ 1024 := by rw [← hnA, ← HOA.out]; have := cR_len f ta vs (m + 1); have := HSZ.out; simp only [sizeL] at this; omega)
       go_must (have HNA := Lib.hid hnA)
       go_must (have UA := Lib.hid hk1.block)
       go_must (have RA := Lib.hid hk1)
       clear hnA hk1
       clear hk2
       clear e0 x0 x1 x2 x3 le lx k0
       go_must (have e0 : (w5).cell? ⟨be, 0, none⟩ = some (.slice (some ⟨b, off, none⟩) nl lc) := CS2.out.eb.cell rfl)
       go_must (have x0 : (w5).cell? ⟨bx, 0, none⟩ = some (.int .i64 (9 : Int)) := CS2.out.xb.cell rfl)
       go_must (have x1 : (w5).cell? ⟨bx, 1, none⟩ = some (.string (txt s)) := CS2.out.xb.cell rfl)
       go_must (have x2 : (w5).cell? ⟨bx, 2, none⟩ = some (.int .i64 n) := CS2.out.xb.cell rfl)
       go_must (have x3 : (w5).cell? ⟨bx, 3, none⟩ = some (.slice (some ⟨kb, ko, none⟩) 1 kc) := CS2.out.xb.cell rfl)
       go_must (have le : be < (w5).heap.size := Nat.lt_of_lt_of_le CS2.out.le CS2.out.lB)
       go_must (have lx : bx < (w5).heap.size := Nat.lt_of_lt_of_le CS2.out.lx CS2.out.lB)
       go_must (have k0 : (w5).cell? ⟨kb, ko, none⟩ = some (.int .i64 (qta : Int)) := rkid_cell (j := 0) HKV.out Eta.out (HH.out.hw.trans (CS2.out.bel.mono HH.out.hw.size))))
    | (have _t := tokL; go_at_call 59; go_must (refine (LK.out _).mono ?_); clear tokL _t
       rintro e w' ⟨rfl, nq, rfl⟩
       go_must (have CS3 := Lib.hid (CS2.out.drewN nq))
       go_must (have RA3 := Lib.hid (RA.out.drewN nq))
       go_must (have hsw5q : w5.heap.size ≤ (w5.drewN nq).heap.size := Nat.le_refl _)
       clear e0 x0 x1 x2 x3 le lx k0
       go_must (have e0 : ((w5.drewN nq)).cell? ⟨be, 0, none⟩ = some (.slice (some ⟨b, off, none⟩) nl lc) := CS3.out.eb.cell rfl)
       go_must (have x0 : ((w5.drewN nq)).cell? ⟨bx, 0, none⟩ = some (.int .i64 (9 : Int)) := CS3.out.xb.cell rfl)
       go_must (have x1 : ((w5.drewN nq)).cell? ⟨bx, 1, none⟩ = some (.string (txt s)) := CS3.out.xb.cell rfl)
       go_must (have x2 : ((w5.drewN nq)).cell? ⟨bx, 2, none⟩ = some (.int .i64 n) := CS3.out.xb.cell rfl)
       go_must (have x3 : ((w5.drewN nq)).cell? ⟨bx, 3, none⟩ = some (.slice (some ⟨kb, ko, none⟩) 1 kc) := CS3.out.xb.cell rfl)
       go_must (have le : be < ((w5.drewN nq)).heap.size := Nat.lt_of_lt_of_le CS3.out.le CS3.out.lB)
       go_must (have lx : bx < ((w5.drewN nq)).heap.size := Nat.lt_of_lt_of_le CS3.out.lx CS3.out.lB)
       go_must (have k0 : ((w5.drewN nq)).cell? ⟨kb, ko, none⟩ = some (.int .i64 (qta : Int)) := rkid_cell (j := 0) HKV.out Eta.out (HH.out.hw.trans (CS3.out.bel.mono HH.out.hw.size))))
    | fail)
  generalize (w5.drewN nq) = W6 at *
  go_wp2_with fail
  go_loopw [11, 21] (fun v11 v21 wr => v21 = .int .i64 1 ∧ Hid (Own1 wr bs 46 4 Ins.Is v11 (oA) ∧ CSt W wr (.slice (some ⟨b, off, none⟩) nl lc) be bx #[.int .i64 (9 : Int), .string (txt s), .int .i64 n, .slice (some ⟨kb, ko, none⟩) 1 kc] bs)) (fun _ v21 _ => 2 - (intOf v21).toNat)
  case atStart => exact ⟨rfl, Lib.hid ⟨(RA3.out.mono (by omega)), CS3.out⟩⟩
  case round =>
    obtain ⟨rfl, hq0⟩ := hrel
    have hq := hq0.out
    clear hq0
    have CSr := Lib.hid hq.2
    have hk1 := hq.1
    clear hq
    have hsr : bs ≤ wr.heap.size := CSr.out.lB
    obtain ⟨aO, cO, rfl⟩ := hk1.form
    obtain ⟨nO, hnO⟩ : ∃ z, (oA).length = z := ⟨_, rfl⟩
    rw [hnO] at hk1 ⊢
    have bO : nO ≤ 1024 := by rw [← hnO, ← HOA.out]; have := cR_len f ta vs (m + 1); have := HSZ.out; simp only [sizeL] at this; omega
    have HNO := Lib.hid hnO
    have UO := Lib.hid hk1.block
    have RO := Lib.hid hk1
    clear hnO hk1
    clear e0 x0 x1 x2 x3 le lx k0
    have e0 : (wr).cell? ⟨be, 0, none⟩ = some (.slice (some ⟨b, off, none⟩) nl lc) := CSr.out.eb.cell rfl
    have x0 : (wr).cell? ⟨bx, 0, none⟩ = some (.int .i64 (9 : Int)) := CSr.out.xb.cell rfl
    have x1 : (wr).cell? ⟨bx, 1, none⟩ = some (.string (txt s)) := CSr.out.xb.cell rfl
    have x2 : (wr).cell? ⟨bx, 2, none⟩ = some (.int .i64 n) := CSr.out.xb.cell rfl
    have x3 : (wr).cell? ⟨bx, 3, none⟩ = some (.slice (some ⟨kb, ko, none⟩) 1 kc) := CSr.out.xb.cell rfl
    have le : be < (wr).heap.size := Nat.lt_of_lt_of_le CSr.out.le CSr.out.lB
    have lx : bx < (wr).heap.size := Nat.lt_of_lt_of_le CSr.out.lx CSr.out.lB
    have k0 : (wr).cell? ⟨kb, ko, none⟩ = some (.int .i64 (qta : Int)) := rkid_cell (j := 0) HKV.out Eta.out (HH.out.hw.trans (CSr.out.bel.mono HH.out.hw.size))
    have tokW : True := trivial
    have tokI : True := trivial
    go_upto_region 49 with (first
      | (have _t := tokW; go_at_call 56; go_must (refine (WK.out _).mono ?_); clear tokW _t
         rintro e w' ⟨rfl, nq, rfl⟩
         go_must (have CS4 := Lib.hid (CSr.out.drewN nq))
         go_must (have RO4 := Lib.hid (RO.out.drewN nq))
         go_must (have hswrq : wr.heap.size ≤ (wr.drewN nq).heap.size := Nat.le_refl _)
         clear e0 x0 x1 x2 x3 le lx k0
         go_must (have e0 : ((wr.drewN nq)).cell? ⟨be, 0, none⟩ = some (.slice (some ⟨b, off, none⟩) nl lc) := CS4.out.eb.cell rfl)
         go_must (have x0 : ((wr.drewN nq)).cell? ⟨bx, 0, none⟩ = some (.int .i64 (9 : Int)) := CS4.out.xb.cell rfl)
         go_must (have x1 : ((wr.drewN nq)).cell? ⟨bx, 1, none⟩ = some (.string (txt s)) := CS4.out.xb.cell rfl)
         go_must (have x2 : ((wr.drewN nq)).cell? ⟨bx, 2, none⟩ = some (.int .i64 n) := CS4.out.xb.cell rfl)
         go_must (have x3 : ((wr.drewN nq)).cell? ⟨bx, 3, none⟩ = some (.slice (some ⟨kb, ko, none⟩) 1 kc) := CS4.out.xb.cell rfl)
         go_must (have le : be < ((wr.drewN nq)).heap.size := Nat.lt_of_lt_of_le CS4.out.le CS4.out.lB)
         go_must (have lx : bx < ((wr.drewN nq)).heap.size := Nat.lt_of_lt_of_le CS4.out.lx CS4.out.lB)
         go_must (have k0 : ((wr.drewN nq)).cell? ⟨kb, ko, none⟩ = some (.int .i64 (qta : Int)) := rkid_cell (j := 0) HKV.out Eta.out (HH.out.hw.trans (CS4.out.bel.mono HH.out.hw.size))))
      | (have _t := tokI; go_at_call 55; go_must (refine (IK.out _).mono ?_); clear tokI _t
         rintro e w8 ⟨rfl, hb⟩
         go_must (have CS5 := Lib.hid (CS4.out.call hb))
         go_must (have RO5 := Lib.hid (RO4.out.below hb (Nat.le_refl _)))
         go_must (have hsw8 := hb.size)
         clear hb
         clear e0 x0 x1 x2 x3 le lx k0
         go_must (have e0 : (w8).cell? ⟨be, 0, none⟩ = some (.slice (some ⟨b, off, none⟩) nl lc) := CS5.out.eb.cell rfl)
         go_must (have x0 : (w8).cell? ⟨bx, 0, none⟩ = some (.int .i64 (9 : Int)) := CS5.out.xb.cell rfl)
         go_must (have x1 : (w8).cell? ⟨bx, 1, none⟩ = some (.string (txt s)) := CS5.out.xb.cell rfl)
         go_must (have x2 : (w8).cell? ⟨bx, 2, none⟩ = some (.int .i64 n) := CS5.out.xb.cell rfl)
         go_must (have x3 : (w8).cell? ⟨bx, 3, none⟩ = some (.slice (some ⟨kb, ko, none⟩) 1 kc) := CS5.out.xb.cell rfl)
         go_must (have le : be < (w8).heap.size := Nat.lt_of_lt_of_le CS5.out.le CS5.out.lB)
         go_must (have lx : bx < (w8).heap.size := Nat.lt_of_lt_of_le CS5.out.lx CS5.out.lB)
         go_must (have k0 : (w8).cell? ⟨kb, ko, none⟩ = some (.int .i64 (qta : Int)) := rkid_cell (j := 0) HKV.out Eta.out (HH.out.hw.trans (CS5.out.bel.mono HH.out.hw.size))))
      | fail)
    have CS6 := Lib.hid (CS5.out.alloc (.cells #[.int .i64 op0, .int .i64 0, .int .i64 0, .string ⟨#[]⟩] 46))
    have RO6 := Lib.hid (RO5.out.alloc (.cells #[.int .i64 op0, .int .i64 0, .int .i64 0, .string ⟨#[]⟩] 46))
    have By := Lib.hid (Blk.new w8 46 #[.int .i64 op0, .int .i64 0, .int .i64 0, .string ⟨#[]⟩])
    have hsW9 : w8.heap.size < (w8.alloc (.cells #[.int .i64 op0, .int .i64 0, .int .i64 0, .string ⟨#[]⟩] 46)).heap.size := by simp
    generalize w8.alloc (.cells #[.int .i64 op0, .int .i64 0, .int .i64 0, .string ⟨#[]⟩] 46) = W9 at *
    clear e0 x0 x1 x2 x3 le lx k0
    have e0 : (W9).cell? ⟨be, 0, none⟩ = some (.slice (some ⟨b, off, none⟩) nl lc) := CS6.out.eb.cell rfl
    have x0 : (W9).cell? ⟨bx, 0, none⟩ = some (.int .i64 (9 : Int)) := CS6.out.xb.cell rfl
    have x1 : (W9).cell? ⟨bx, 1, none⟩ = some (.string (txt s)) := CS6.out.xb.cell rfl
    have x2 : (W9).cell? ⟨bx, 2, none⟩ = some (.int .i64 n) := CS6.out.xb.cell rfl
    have x3 : (W9).cell? ⟨bx, 3, none⟩ = some (.slice (some ⟨kb, ko, none⟩) 1 kc) := CS6.out.xb.cell rfl
    have le : be < (W9).heap.size := Nat.lt_of_lt_of_le CS6.out.le CS6.out.lB
    have lx : bx < (W9).heap.size := Nat.lt_of_lt_of_le CS6.out.lx CS6.out.lB
    have k0 : (W9).cell? ⟨kb, ko, none⟩ = some (.int .i64 (qta : Int)) := rkid_cell (j := 0) HKV.out Eta.out (HH.out.hw.trans (CS6.out.bel.mono HH.out.hw.size))
    have y0 : (W9).cell? ⟨w8.heap.size, 0, none⟩ = some (.int .i64 op0) := By.out.cell rfl
    have y1 : (W9).cell? ⟨w8.heap.size, 1, none⟩ = some (.int .i64 0) := By.out.cell rfl
    have y2 : (W9).cell? ⟨w8.heap.size, 2, none⟩ = some (.int .i64 0) := By.out.cell rfl
    have y3 : (W9).cell? ⟨w8.heap.size, 3, none⟩ = some (.string ⟨#[]⟩) := By.out.cell rfl
    have ly : w8.heap.size < (W9).heap.size := By.out.lt
    have yf0 : (W9).frozen? ⟨w8.heap.size, 0, none⟩ = false := By.out.frozen 0
    have yf1 : (W9).frozen? ⟨w8.heap.size, 1, none⟩ = false := By.out.frozen 1
    have yf2 : (W9).frozen? ⟨w8.heap.size, 2, none⟩ = false := By.out.frozen 2
    have yf3 : (W9).frozen? ⟨w8.heap.size, 3, none⟩ = false := By.out.frozen 3
    go_upto_region 51 with fail
    generalize hW10 : World.setCell _ _ _ = W10
    have CS7 : Hid (CSt W W10 (.slice (some ⟨b, off, none⟩) nl lc) be bx #[.int .i64 (9 : Int), .string (txt s), .int .i64 n, .slice (some ⟨kb, ko, none⟩) 1 kc] bs) := Lib.hid (by rw [← hW10]; exact (CS6.out.set_ (g := w8.heap.size) (by omega) _ _))
    have RO7 : Hid (Own1 W10 bs 46 4 Ins.Is (.slice aO nO cO) oA) := Lib.hid (by rw [← hW10]; exact (RO6.out.setOther (p := ⟨w8.heap.size, 3, none⟩) (fun e => by have := UO.out (w8.heap.size) e; omega) _))
    have By7 : Hid (Blk W10 w8.heap.size 46 #[.int .i64 op0, .int .i64 0, .int .i64 0, .string (txt s)]) := Lib.hid (by rw [← hW10]; have := (By.out.set_ 3 (.string (txt s))); simpa using this)
    have hsW10 : W9.heap.size ≤ W10.heap.size := by rw [← hW10]; simp
    clear hW10
    clear e0 x0 x1 x2 x3 le lx k0 y0 y1 y2 y3 ly yf0 yf1 yf2 yf3
    have e0 : (W10).cell? ⟨be, 0, none⟩ = some (.slice (some ⟨b, off, none⟩) nl lc) := CS7.out.eb.cell rfl
    have x0 : (W10).cell? ⟨bx, 0, none⟩ = some (.int .i64 (9 : Int)) := CS7.out.xb.cell rfl
    have x1 : (W10).cell? ⟨bx, 1, none⟩ = some (.string (txt s)) := CS7.out.xb.cell rfl
    have x2 : (W10).cell? ⟨bx, 2, none⟩ = some (.int .i64 n) := CS7.out.xb.cell rfl
    have x3 : (W10).cell? ⟨bx, 3, none⟩ = some (.slice (some ⟨kb, ko, none⟩) 1 kc) := CS7.out.xb.cell rfl
    have le : be < (W10).heap.size := Nat.lt_of_lt_of_le CS7.out.le CS7.out.lB
    have lx : bx < (W10).heap.size := Nat.lt_of_lt_of_le CS7.out.lx CS7.out.lB
    have k0 : (W10).cell? ⟨kb, ko, none⟩ = some (.int .i64 (qta : Int)) := rkid_cell (j := 0) HKV.out Eta.out (HH.out.hw.trans (CS7.out.bel.mono HH.out.hw.size))
    have y0 : (W10).cell? ⟨w8.heap.size, 0, none⟩ = some (.int .i64 op0) := By7.out.cell rfl
    have y1 : (W10).cell? ⟨w8.heap.size, 1, none⟩ = some (.int .i64 0) := By7.out.cell rfl
    have y2 : (W10).cell? ⟨w8.heap.size, 2, none⟩ = some (.int .i64 0) := By7.out.cell rfl
    have y3 : (W10).cell? ⟨w8.heap.size, 3, none⟩ = some (.string (txt s)) := By7.out.cell rfl
    have ly : w8.heap.size < (W10).heap.size := By7.out.lt
    have yf0 : (W10).frozen? ⟨w8.heap.size, 0, none⟩ = false := By7.out.frozen 0
    have yf1 : (W10).frozen? ⟨w8.heap.size, 1, none⟩ = false := By7.out.frozen 1
    have yf2 : (W10).frozen? ⟨w8.heap.size, 2, none⟩ = false := By7.out.frozen 2
    have yf3 : (W10).frozen? ⟨w8.heap.size, 3, none⟩ = false := By7.out.frozen 3
    have tokP : True := trivial
    go_wp2_with (first
      | (have _t := tokP
         at_builtin
         go_must (refine wpList_append_list rfl (.tmp 243) (.tmp 245) _ (by rfl) bs (W10.heap.size + 1) 46 jI _ 4 40 Tryd.underlying22 I.out.1 I.out.2.1 I.out.2.2.1 I.out.2.2.2 rfl (by omega) (R := Ins.Is) (l := oA) (m := [⟨op0, 0, 0, txt s⟩]) (.slice aO nO cO) (by rfl) (by exact (RO7.out.alloc (.cells #[.int .i64 op0, .int .i64 0, .int .i64 0, .string (txt s)] 46))) (some ⟨W10.heap.size, 0, none⟩) 1 1 (by rfl) (SlR.new1 (w := W10) (e := 46) (g := W10.heap.size) rfl (x := [.int .i64 op0, .int .i64 0, .int .i64 0, .string (txt s)]) rfl (R := Ins.Is) (y := ⟨op0, 0, 0, txt s⟩) ⟨rfl, ins_ok hsm1 hsm2 (by omega) (by omega) (by omega) (by omega) (by rw [txt_size]; have := shape_len HND.out.1; unfold maxLen; omega)⟩) (nO + 1) (by rw [HNO.out]) Ins.Is.one (by have := HNO.out; unfold maxLen; simp <;> omega) (by have := HNO.out; simp <;> omega) (by simp <;> omega) ?_)
         clear tokP _t
         intro aO' cO' w11 hown hgr
         go_must (have CS8 := Lib.hid ((CS7.out.alloc (.cells #[.int .i64 op0, .int .i64 0, .int .i64 0, .string (txt s)] 46)).grown ((RO7.out.alloc (.cells #[.int .i64 op0, .int .i64 0, .int .i64 0, .string (txt s)] 46)).mono (by have := CS7.out.lB; omega)) hgr))
         go_must (have RO8 := Lib.hid hown)
         go_must (have hsw11 : W10.heap.size < w11.heap.size := by have := hgr.size; simp at this; omega)
         clear hown hgr
         clear e0 x0 x1 x2 x3 le lx k0 y0 y1 y2 y3 ly yf0 yf1 yf2 yf3
         go_must (have e0 : (w11).cell? ⟨be, 0, none⟩ = some (.slice (some ⟨b, off, none⟩) nl lc) := CS8.out.eb.cell rfl)
         go_must (have x0 : (w11).cell? ⟨bx, 0, none⟩ = some (.int .i64 (9 : Int)) := CS8.out.xb.cell rfl)
         go_must (have x1 : (w11).cell? ⟨bx, 1, none⟩ = some (.string (txt s)) := CS8.out.xb.cell rfl)
         go_must (have x2 : (w11).cell? ⟨bx, 2, none⟩ = some (.int .i64 n) := CS8.out.xb.cell rfl)
         go_must (have x3 : (w11).cell? ⟨bx, 3, none⟩ = some (.slice (some ⟨kb, ko, none⟩) 1 kc) := CS8.out.xb.cell rfl)
         go_must (have le : be < (w11).heap.size := Nat.lt_of_lt_of_le CS8.out.le CS8.out.lB)
         go_must (have lx : bx < (w11).heap.size := Nat.lt_of_lt_of_le CS8.out.lx CS8.out.lB)
         go_must (have k0 : (w11).cell? ⟨kb, ko, none⟩ = some (.int .i64 (qta : Int)) := rkid_cell (j := 0) HKV.out Eta.out (HH.out.hw.trans (CS8.out.bel.mono HH.out.hw.size))))
      | fail)
    go_ret
    rw [HCR.out]
    exact rcodeK_of (RO8.out.mono (by omega)) CS8.out.bel
set_option maxRecDepth 100000 in
set_option maxHeartbeats 8000000 in
theorem rcode_named10 {l : List ND} {lv : Value} {W0 : World} {f p : Nat} {s : List Nat} {n m : Int} {ta : Tr} {vs : List (List Nat)} {W : World} (H : RPre l lv W0 (f + 1) (.node 10 s n [ta]) p vs m W) (ih : RCodeIs l lv W0 f) : Calls Tryd.prog 30 #[.agg #[lv], .int .i64 (p : Int), .int .i64 m] W (RCodeK W (cR (f + 1) (.node 10 s n [ta]) vs m)) := by
  obtain ⟨hd, hks⟩ := stands_node H.st
  obtain ⟨la, lc, rfl, _, _⟩ := H.hs.form
  have hpl := (List.getElem?_eq_some_iff.1 hd).1
  obtain ⟨nl, hnl⟩ : ∃ z, l.length = z := ⟨_, rfl⟩
  rw [hnl] at H hpl ⊢
  try rw [hnl] at ih
  have hB6 := H.hw.alloc H.hw.size (.cells #[.slice la nl lc] 38)
  have hhs := H.hs
  obtain ⟨b, off, x, rfl, hbB, hxl, ⟨kv, rfl, hkv⟩, hx⟩ := (hhs.below hB6).at_ hd
  obtain ⟨ka, kc, rfl, _, _⟩ := hkv.form
  simp only [List.length_map, places_len] at hkv hx
  simp only [List.length_cons, List.length_nil, Nat.zero_add, Nat.reduceAdd] at hkv hx
  have x0 := hx 0 _ rfl
  have x1 := hx 1 _ rfl
  have x2 := hx 2 _ rfl
  have x3 := hx 3 _ rfl
  simp only [Nat.add_zero] at x0
  have p0 : (0 : Int) ≤ (p : Int) := Int.natCast_nonneg _
  have p1 : (p : Int) < (nl : Int) := by omega
  have HH := Lib.hid H
  have HNL := Lib.hid hnl
  have HKV := Lib.hid hkv
  have m1 := H.m1
  have m2 : m ≤ 1000 := by have := H.mf; omega
  obtain ⟨jI, hi, hz, hsz, hby⟩ := info_parts info_Ins
  have I := Lib.hid (And.intro hi (And.intro hz (And.intro hsz hby)))
  clear hi hz hsz hby H hd hkv hx hxl hks hnl hhs hB6
  go_enter Tryd.func30, Tryd.ntmps30
  go_upto_region 1 with fail
  have e0 : (W.alloc (.cells #[(.slice (some ⟨b, off, none⟩) nl lc)] 38)).cell? ⟨W.heap.size, 0, none⟩ = some (.slice (some ⟨b, off, none⟩) nl lc) := (Blk.new W 38 #[(.slice (some ⟨b, off, none⟩) nl lc)]).cell rfl
  have lw0 : W.heap.size < (W.alloc (.cells #[(.slice (some ⟨b, off, none⟩) nl lc)] 38)).heap.size := (Blk.new W 38 #[(.slice (some ⟨b, off, none⟩) nl lc)]).lt
  generalize hW1 : W.alloc (.cells #[(.slice (some ⟨b, off, none⟩) nl lc)] 38) = W1 at *
  have HW1 := Lib.hid hW1
  clear hW1
  go_upto_region 4 with (first
    | (go_at_call 55; go_must (refine (rins_step _).mono ?_); rintro e w2 ⟨rfl, hb⟩; go_must (have HB := Lib.hid (CSt.make HW1.out.symm hb)); clear hb)
    | fail)
  clear x0 x1 x2 x3 e0 lw0
  have CS := Lib.hid (HB.out.alloc (.cells #[.int .i64 1, .int .i64 m, .int .i64 0, .string ⟨#[]⟩] 46))
  have SK := Lib.hid (Blk.new w2 46 #[.int .i64 1, .int .i64 m, .int .i64 0, .string ⟨#[]⟩])
  generalize hW3 : w2.alloc (.cells #[.int .i64 1, .int .i64 m, .int .i64 0, .string ⟨#[]⟩] 46) = W3 at *
  obtain ⟨be, hbe⟩ : ∃ z, W.heap.size = z := ⟨_, rfl⟩
  obtain ⟨bx, hbx⟩ : ∃ z, W1.heap.size = z := ⟨_, rfl⟩
  obtain ⟨bs, hbs⟩ : ∃ z, w2.heap.size = z := ⟨_, rfl⟩
  rw [hbe] at CS
  rw [hbx, hbs] at CS
  rw [hbs] at SK
  first | rw [hbe, hbx, hbs] | rw [hbx, hbe, hbs]
  clear HB hW3 hbx hbs HW1
  have e0 : (W3).cell? ⟨be, 0, none⟩ = some (.slice (some ⟨b, off, none⟩) nl lc) := CS.out.eb.cell rfl
  have x0 : (W3).cell? ⟨bx, 0, none⟩ = some (.int .i64 (10 : Int)) := CS.out.xb.cell rfl
  have x1 : (W3).cell? ⟨bx, 1, none⟩ = some (.string (txt s)) := CS.out.xb.cell rfl
  have x2 : (W3).cell? ⟨bx, 2, none⟩ = some (.int .i64 n) := CS.out.xb.cell rfl
  have x3 : (W3).cell? ⟨bx, 3, none⟩ = some (.slice ka 1 kc) := CS.out.xb.cell rfl
  have le : be < (W3).heap.size := Nat.lt_of_lt_of_le CS.out.le CS.out.lB
  have lx : bx < (W3).heap.size := Nat.lt_of_lt_of_le CS.out.lx CS.out.lB
  have HSZ : Hid (1 + sizeL [ta] ≤ 256) := Lib.hid (by have h1 := stands_size HH.out.st; have h2 := HH.out.hl; have := HNL.out; simp only [Tr.size] at h1; omega)
  obtain ⟨qta, sta, uta, eta⟩ := rkid HH.out.st HH.out.un (j := 0) (a := ta) rfl
  rw [if_neg (by omega)] at uta
  have Sta := Lib.hid sta
  have Vta := Lib.hid uta
  have Eta := Lib.hid eta
  clear sta uta eta
  obtain ⟨kb, ko, rfl⟩ := kid_form HKV.out (stands_node HH.out.st).2 (j := 0) (t := ta) rfl
  have wr1 : IntKind.i64.wrap (m + 1) = m + 1 := by rw [IntKind.wrap_i64]; omega
  have hs0 : bs ≤ W3.heap.size := CS.out.lB
  have hwl : W.heap.size ≤ bs := CS.out.wl
  obtain ⟨oA, hoA⟩ : ∃ z, cR f ta vs (m + 1) = z := ⟨_, rfl⟩
  have HOA := Lib.hid hoA
  have OPSA : Hid (∀ y ∈ oA, (1 ≤ y.op ∧ y.op ≤ 40) ∧ -1000000 ≤ y.arg ∧ y.arg ≤ 1000000) := Lib.hid (by rw [← hoA]; exact rcode_ops HH.out (j := 0) rfl (by simp) (by omega) (by omega))
  clear hoA
  have hcr : cR (f + 1) (.node 10 s n [ta]) vs m = oA ++ [⟨sameN 10, 0, 0, txt s⟩] := by rw [← HOA.out]; rfl
  have hop : opR (wordK 10) = sameN 10 := by rw [opR_wordK (by omega)]; unfold opK; rw [if_neg (by omega)]
  have hlk : decide (31 ≤ (10 : Int) ∧ (10 : Int) ≤ 34) = false := by simp; try omega
  have LK := Lib.hid (rloop_any (10 : Int))
  rw [hlk] at LK
  clear hlk
  have WK : Hid (∀ w, Calls Tryd.prog 56 #[.int .i64 (10 : Int)] w fun e w' => e = .returned (.string (wordK 10)) ∧ Quiet w w') := Lib.hid (fun w => rkind_any 10 (by omega) w)
  obtain ⟨wk, hwk⟩ : ∃ z, wordK 10 = z := ⟨_, rfl⟩
  rw [hwk] at WK hop
  have IK := Lib.hid (rins_any wk)
  rw [hop] at IK
  obtain ⟨op0, hop0⟩ : ∃ z, sameN 10 = z := ⟨_, rfl⟩
  have hsm : -9223372036854775808 ≤ op0 ∧ op0 ≤ 9223372036854775807 := by rw [← hop0]; exact sameN_rng (by omega)
  obtain ⟨hsm1, hsm2⟩ := hsm
  rw [hop0] at IK hcr
  have HCR := Lib.hid hcr
  clear hwk hop hop0 hcr
  have HND := Lib.hid HH.out.good.1
  clear e0 x0 x1 x2 x3 le lx
  have e0 : (W3).cell? ⟨be, 0, none⟩ = some (.slice (some ⟨b, off, none⟩) nl lc) := CS.out.eb.cell rfl
  have x0 : (W3).cell? ⟨bx, 0, none⟩ = some (.int .i64 (10 : Int)) := CS.out.xb.cell rfl
  have x1 : (W3).cell? ⟨bx, 1, none⟩ = some (.string (txt s)) := CS.out.xb.cell rfl
  have x2 : (W3).cell? ⟨bx, 2, none⟩ = some (.int .i64 n) := CS.out.xb.cell rfl
  have x3 : (W3).cell? ⟨bx, 3, none⟩ = some (.slice (some ⟨kb, ko, none⟩) 1 kc) := CS.out.xb.cell rfl
  have le : be < (W3).heap.size := Nat.lt_of_lt_of_le CS.out.le CS.out.lB
  have lx : bx < (W3).heap.size := Nat.lt_of_lt_of_le CS.out.lx CS.out.lB
  have k0 : (W3).cell? ⟨kb, ko, none⟩ = some (.int .i64 (qta : Int)) := rkid_cell (j := 0) HKV.out Eta.out (HH.out.hw.trans (CS.out.bel.mono HH.out.hw.size))
  go_upto_region 20 with fail
  go_still_tail 7, (by kernel_rfl)
  change wpList _ _ _ _ _ W3.drew
  have CS1 := Lib.hid (CS.out.drew)
  have hsW4 : W3.heap.size ≤ W3.drew.heap.size := Nat.le_refl _
  generalize W3.drew = W4 at *
  clear e0 x0 x1 x2 x3 le lx k0
  have e0 : (W4).cell? ⟨be, 0, none⟩ = some (.slice (some ⟨b, off, none⟩) nl lc) := CS1.out.eb.cell rfl
  have x0 : (W4).cell? ⟨bx, 0, none⟩ = some (.int .i64 (10 : Int)) := CS1.out.xb.cell rfl
  have x1 : (W4).cell? ⟨bx, 1, none⟩ = some (.string (txt s)) := CS1.out.xb.cell rfl
  have x2 : (W4).cell? ⟨bx, 2, none⟩ = some (.int .i64 n) := CS1.out.xb.cell rfl
  have x3 : (W4).cell? ⟨bx, 3, none⟩ = some (.slice (some ⟨kb, ko, none⟩) 1 kc) := CS1.out.xb.cell rfl
  have le : be < (W4).heap.size := Nat.lt_of_lt_of_le CS1.out.le CS1.out.lB
  have lx : bx < (W4).heap.size := Nat.lt_of_lt_of_le CS1.out.lx CS1.out.lB
  have k0 : (W4).cell? ⟨kb, ko, none⟩ = some (.int .i64 (qta : Int)) := rkid_cell (j := 0) HKV.out Eta.out (HH.out.hw.trans (CS1.out.bel.mono HH.out.hw.size))
  have tokA : True := trivial
  have tokL : True := trivial
  go_upto_region 44 with (first
    | (have _t := tokA; go_at_call 30; go_must (refine (ih ta qta vs (m + 1) _ (RPre.kid (j := 0) HH.out rfl Sta.out Vta.out (by simp) (by omega) (by omega) CS1.out.bel)).mono ?_); clear tokA _t
       rintro e w5 ⟨ov, rfl, hk1, hk2⟩
       go_must (have CS2 := Lib.hid (CS1.out.call hk2))
       rw [HOA.out] at hk1
       go_must (have hsw5 := hk2.size)
       obtain ⟨aA, cA, rfl⟩ := hk1.form
       obtain ⟨nA, hnA⟩ : ∃ z, (oA).length = z := ⟨_, rfl⟩
       rw [hnA] at hk1 ⊢
       go_must (have bA : nA ≤ 1024 := by rw [← hnA, ← HOA.out]; have := cR_len f ta vs (m + 1); have := HSZ.out; simp only [sizeL] at this; omega)
       go_must (have HNA := Lib.hid hnA)
       go_must (have UA := Lib.hid hk1.block)
       go_must (have RA := Lib.hid hk1)
       clear hnA hk1
       clear hk2
       clear e0 x0 x1 x2 x3 le lx k0
       go_must (have e0 : (w5).cell? ⟨be, 0, none⟩ = some (.slice (some ⟨b, off, none⟩) nl lc) := CS2.out.eb.cell rfl)
       go_must (have x0 : (w5).cell? ⟨bx, 0, none⟩ = some (.int .i64 (10 : Int)) := CS2.out.xb.cell rfl)
       go_must (have x1 : (w5).cell? ⟨bx, 1, none⟩ = some (.string (txt s)) := CS2.out.xb.cell rfl)
       go_must (have x2 : (w5).cell? ⟨bx, 2, none⟩ = some (.int .i64 n) := CS2.out.xb.cell rfl)
       go_must (have x3 : (w5).cell? ⟨bx, 3, none⟩ = some (.slice (some ⟨kb, ko, none⟩) 1 kc) := CS2.out.xb.cell rfl)
       go_must (have le : be < (w5).heap.size := Nat.lt_of_lt_of_le CS2.out.le CS2.out.lB)
       go_must (have lx : bx < (w5).heap.size := Nat.lt_of_lt_of_le CS2.out.lx CS2.out.lB)
       go_must (have k0 : (w5).cell? ⟨kb, ko, none⟩ = some (.int .i64 (qta : Int)) := rkid_cell (j := 0) HKV.out Eta.out (HH.out.hw.trans (CS2.out.bel.mono HH.out.hw.size))))
    | (have _t := tokL; go_at_call 59; go_must (refine (LK.out _).mono ?_); clear tokL _t
       rintro e w' ⟨rfl, nq, rfl⟩
       go_must (have CS3 := Lib.hid (CS2.out.drewN nq))
       go_must (have RA3 := Lib.hid (RA.out.drewN nq))
       go_must (have hsw5q : w5.heap.size ≤ (w5.drewN nq).heap.size := Nat.le_refl _)
       clear e0 x0 x1 x2 x3 le lx k0
       go_must (have e0 : ((w5.drewN nq)).cell? ⟨be, 0, none⟩ = some (.slice (some ⟨b, off, none⟩) nl lc) := CS3.out.eb.cell rfl)
       go_must (have x0 : ((w5.drewN nq)).cell? ⟨bx, 0, none⟩ = some (.int .i64 (10 : Int)) := CS3.out.xb.cell rfl)
       go_must (have x1 : ((w5.drewN nq)).cell? ⟨bx, 1, none⟩ = some (.string (txt s)) := CS3.out.xb.cell rfl)
       go_must (have x2 : ((w5.drewN nq)).cell? ⟨bx, 2, none⟩ = some (.int .i64 n) := CS3.out.xb.cell rfl)
       go_must (have x3 : ((w5.drewN nq)).cell? ⟨bx, 3, none⟩ = some (.slice (some ⟨kb, ko, none⟩) 1 kc) := CS3.out.xb.cell rfl)
       go_must (have le : be < ((w5.drewN nq)).heap.size := Nat.lt_of_lt_of_le CS3.out.le CS3.out.lB)
       go_must (have lx : bx < ((w5.drewN nq)).heap.size := Nat.lt_of_lt_of_le CS3.out.lx CS3.out.lB)
       go_must (have k0 : ((w5.drewN nq)).cell? ⟨kb, ko, none⟩ = some (.int .i64 (qta : Int)) := rkid_cell (j := 0) HKV.out Eta.out (HH.out.hw.trans (CS3.out.bel.mono HH.out.hw.size))))
    | fail)
  generalize (w5.drewN nq) = W6 at *
  go_wp2_with fail
  go_loopw [11, 21] (fun v11 v21 wr => v21 = .int .i64 1 ∧ Hid (Own1 wr bs 46 4 Ins.Is v11 (oA) ∧ CSt W wr (.slice (some ⟨b, off, none⟩) nl lc) be bx #[.int .i64 (10 : Int), .string (txt s), .int .i64 n, .slice (some ⟨kb, ko, none⟩) 1 kc] bs)) (fun _ v21 _ => 2 - (intOf v21).toNat)
  case atStart => exact ⟨rfl, Lib.hid ⟨(RA3.out.mono (by omega)), CS3.out⟩⟩
  case round =>
    obtain ⟨rfl, hq0⟩ := hrel
    have hq := hq0.out
    clear hq0
    have CSr := Lib.hid hq.2
    have hk1 := hq.1
    clear hq
    have hsr : bs ≤ wr.heap.size := CSr.out.lB
    obtain ⟨aO, cO, rfl⟩ := hk1.form
    obtain ⟨nO, hnO⟩ : ∃ z, (oA).length = z := ⟨_, rfl⟩
    rw [hnO] at hk1 ⊢
    have bO : nO ≤ 1024 := by rw [← hnO, ← HOA.out]; have := cR_len f ta vs (m + 1); have := HSZ.out; simp only [sizeL] at this; omega
    have HNO := Lib.hid hnO
    have UO := Lib.hid hk1.block
    have RO := Lib.hid hk1
    clear hnO hk1
    clear e0 x0 x1 x2 x3 le lx k0
    have e0 : (wr).cell? ⟨be, 0, none⟩ = some (.slice (some ⟨b, off, none⟩) nl lc) := CSr.out.eb.cell rfl
    have x0 : (wr).cell? ⟨bx, 0, none⟩ = some (.int .i64 (10 : Int)) := CSr.out.xb.cell rfl
    have x1 : (wr).cell? ⟨bx, 1, none⟩ = some (.string (txt s)) := CSr.out.xb.cell rfl
    have x2 : (wr).cell? ⟨bx, 2, none⟩ = some (.int .i64 n) := CSr.out.xb.cell rfl
    have x3 : (wr).cell? ⟨bx, 3, none⟩ = some (.slice (some ⟨kb, ko, none⟩) 1 kc) := CSr.out.xb.cell rfl
    have le : be < (wr).heap.size := Nat.lt_of_lt_of_le CSr.out.le CSr.out.lB
    have lx : bx < (wr).heap.size := Nat.lt_of_lt_of_le CSr.out.lx CSr.out.lB
    have k0 : (wr).cell? ⟨kb, ko, none⟩ = some (.int .i64 (qta : Int)) := rkid_cell (j := 0) HKV.out Eta.out (HH.out.hw.trans (CSr.out.bel.mono HH.out.hw.size))
    have tokW : True := trivial
    have tokI : True := trivial
    go_upto_region 49 with (first
      | (have _t := tokW; go_at_call 56; go_must (refine (WK.out _).mono ?_); clear tokW _t
         rintro e w' ⟨rfl, nq, rfl⟩
         go_must (have CS4 := Lib.hid (CSr.out.drewN nq))
         go_must (have RO4 := Lib.hid (RO.out.drewN nq))
         go_must (have hswrq : wr.heap.size ≤ (wr.drewN nq).heap.size := Nat.le_refl _)
         clear e0 x0 x1 x2 x3 le lx k0
         go_must (have e0 : ((wr.drewN nq)).cell? ⟨be, 0, none⟩ = some (.slice (some ⟨b, off, none⟩) nl lc) := CS4.out.eb.cell rfl)
         go_must (have x0 : ((wr.drewN nq)).cell? ⟨bx, 0, none⟩ = some (.int .i64 (10 : Int)) := CS4.out.xb.cell rfl)
         go_must (have x1 : ((wr.drewN nq)).cell? ⟨bx, 1, none⟩ = some (.string (txt s)) := CS4.out.xb.cell rfl)
         go_must (have x2 : ((wr.drewN nq)).cell? ⟨bx, 2, none⟩ = some (.int .i64 n) := CS4.out.xb.cell rfl)
         go_must (have x3 : ((wr.drewN nq)).cell? ⟨bx, 3, none⟩ = some (.slice (some ⟨kb, ko, none⟩) 1 kc) := CS4.out.xb.cell rfl)
         go_must (have le : be < ((wr.drewN nq)).heap.size := Nat.lt_of_lt_of_le CS4.out.le CS4.out.lB)
         go_must (have lx : bx < ((wr.drewN nq)).heap.size := Nat.lt_of_lt_of_le CS4.out.lx CS4.out.lB)
         go_must (have k0 : ((wr.drewN nq)).cell? ⟨kb, ko, none⟩ = some (.int .i64 (qta : Int)) := rkid_cell (j := 0) HKV.out Eta.out (HH.out.hw.trans (CS4.out.bel.mono HH.out.hw.size))))
      | (have _t := tokI; go_at_call 55; go_must (refine (IK.out _).mono ?_); clear tokI _t
         rintro e w8 ⟨rfl, hb⟩
         go_must (have CS5 := Lib.hid (CS4.out.call hb))
         go_must (have RO5 := Lib.hid (RO4.out.below hb (Nat.le_refl _)))
         go_must (have hsw8 := hb.size)
         clear hb
         clear e0 x0 x1 x2 x3 le lx k0
         go_must (have e0 : (w8).cell? ⟨be, 0, none⟩ = some (.slice (some ⟨b, off, none⟩) nl lc) := CS5.out.eb.cell rfl)
         go_must (have x0 : (w8).cell? ⟨bx, 0, none⟩ = some (.int .i64 (10 : Int)) := CS5.out.xb.cell rfl)
         go_must (have x1 : (w8).cell? ⟨bx, 1, none⟩ = some (.string (txt s)) := CS5.out.xb.cell rfl)
         go_must (have x2 : (w8).cell? ⟨bx, 2, none⟩ = some (.int .i64 n) := CS5.out.xb.cell rfl)
         go_must (have x3 : (w8).cell? ⟨bx, 3, none⟩ = some (.slice (some ⟨kb, ko, none⟩) 1 kc) := CS5.out.xb.cell rfl)
         go_must (have le : be < (w8).heap.size := Nat.lt_of_lt_of_le CS5.out.le CS5.out.lB)
         go_must (have lx : bx < (w8).heap.size := Nat.lt_of_lt_of_le CS5.out.lx CS5.out.lB)
         go_must (have k0 : (w8).cell? ⟨kb, ko, none⟩ = some (.int .i64 (qta : Int)) := rkid_cell (j := 0) HKV.out Eta.out (HH.out.hw.trans (CS5.out.bel.mono HH.out.hw.size))))
      | fail)
    have CS6 := Lib.hid (CS5.out.alloc (.cells #[.int .i64 op0, .int .i64 0, .int .i64 0, .string ⟨#[]⟩] 46))
    have RO6 := Lib.hid (RO5.out.alloc (.cells #[.int .i64 op0, .int .i64 0, .int .i64 0, .string ⟨#[]⟩] 46))
    have By := Lib.hid (Blk.new w8 46 #[.int .i64 op0, .int .i64 0, .int .i64 0, .string ⟨#[]⟩])
    have hsW9 : w8.heap.size < (w8.alloc (.cells #[.int .i64 op0, .int .i64 0, .int .i64 0, .string ⟨#[]⟩] 46)).heap.size := by simp
    generalize w8.alloc (.cells #[.int .i64 op0, .int .i64 0, .int .i64 0, .string ⟨#[]⟩] 46) = W9 at *
    clear e0 x0 x1 x2 x3 le lx k0
    have e0 : (W9).cell? ⟨be, 0, none⟩ = some (.slice (some ⟨b, off, none⟩) nl lc) := CS6.out.eb.cell rfl
    have x0 : (W9).cell? ⟨bx, 0, none⟩ = some (.int .i64 (10 : Int)) := CS6.out.xb.cell rfl
    have x1 : (W9).cell? ⟨bx, 1, none⟩ = some (.string (txt s)) := CS6.out.xb.cell rfl
    have x2 : (W9).cell? ⟨bx, 2, none⟩ = some (.int .i64 n) := CS6.out.xb.cell rfl
    have x3 : (W9).cell? ⟨bx, 3, none⟩ = some (.slice (some ⟨kb, ko, none⟩) 1 kc) := CS6.out.xb.cell rfl
    have le : be < (W9).heap.size := Nat.lt_of_lt_of_le CS6.out.le CS6.out.lB
    have lx : bx < (W9).heap.size := Nat.lt_of_lt_of_le CS6.out.lx CS6.out.lB
    have k0 : (W9).cell? ⟨kb, ko, none⟩ = some (.int .i64 (qta : Int)) := rkid_cell (j := 0) HKV.out Eta.out (HH.out.hw.trans (CS6.out.bel.mono HH.out.hw.size))
    have y0 : (W9).cell? ⟨w8.heap.size, 0, none⟩ = some (.int .i64 op0) := By.out.cell rfl
    have y1 : (W9).cell? ⟨w8.heap.size, 1, none⟩ = some (.int .i64 0) := By.out.cell rfl
    have y2 : (W9).cell? ⟨w8.heap.size, 2, none⟩ = some (.int .i64 0) := By.out.cell rfl
    have y3 : (W9).cell? ⟨w8.heap.size, 3, none⟩ = some (.string ⟨#[]⟩) := By.out.cell rfl
    have ly : w8.heap.size < (W9).heap.size := By.out.lt
    have yf0 : (W9).frozen? ⟨w8.heap.size, 0, none⟩ = false := By.out.frozen 0
    have yf1 : (W9).frozen? ⟨w8.heap.size, 1, none⟩ = false := By.out.frozen 1
    have yf2 : (W9).frozen? ⟨w8.heap.size, 2, none⟩ = false := By.out.frozen 2
    have yf3 : (W9).frozen? ⟨w8.heap.size, 3, none⟩ = false := By.out.frozen 3
    go_upto_region 51 with fail
    generalize hW10 : World.setCell _ _ _ = W10
    have CS7 : Hid (CSt W W10 (.slice (some ⟨b, off, none⟩) nl lc) be bx #[.int .i64 (10 : Int), .string (txt s), .int .i64 n, .slice (some ⟨kb, ko, none⟩) 1 kc] bs) := Lib.hid (by rw [← hW10]; exact (CS6.out.set_ (g := w8.heap.size) (by omega) _ _))
    have RO7 : Hid (Own1 W10 bs 46 4 Ins.Is (.slice aO nO cO) oA) := Lib.hid (by rw [← hW10]; exact (RO6.out.setOther (p := ⟨w8.heap.size, 3, none⟩) (fun e => by have := UO.out (w8.heap.size) e; omega) _))
    have By7 : Hid (Blk W10 w8.heap.size 46 #[.int .i64 op0, .int .i64 0, .int .i64 0, .string (txt s)]) := Lib.hid (by rw [← hW10]; have := (By.out.set_ 3 (.string (txt s))); simpa using this)
    have hsW10 : W9.heap.size ≤ W10.heap.size := by rw [← hW10]; simp
    clear hW10
    clear e0 x0 x1 x2 x3 le lx k0 y0 y1 y2 y3 ly yf0 yf1 yf2 yf3
    have e0 : (W10).cell? ⟨be, 0, none⟩ = some (.slice (some ⟨b, off, none⟩) nl lc) := CS7.out.eb.cell rfl
    have x0 : (W10).cell? ⟨bx, 0, none⟩ = some (.int .i64 (10 : Int)) := CS7.out.xb.cell rfl
    have x1 : (W10).cell? ⟨bx, 1, none⟩ = some (.string (txt s)) := CS7.out.xb.cell rfl
    have x2 : (W10).cell? ⟨bx, 2, none⟩ = some (.int .i64 n) := CS7.out.xb.cell rfl
    have x3 : (W10).cell? ⟨bx, 3, none⟩ = some (.slice (some ⟨kb, ko, none⟩) 1 kc) := CS7.out.xb.cell rfl
    have le : be < (W10).heap.size := Nat.lt_of_lt_of_le CS7.out.le CS7.out.lB
    have lx : bx < (W10).heap.size := Nat.lt_of_lt_of_le CS7.out.lx CS7.out.lB
    have k0 : (W10).cell? ⟨kb, ko, none⟩ = some (.int .i64 (qta : Int)) := rkid_cell (j := 0) HKV.out Eta.out (HH.out.hw.trans (CS7.out.bel.mono HH.out.hw.size))
    have y0 : (W10).cell? ⟨w8.heap.size, 0, none⟩ = some (.int .i64 op0) := By7.out.cell rfl
    have y1 : (W10).cell? ⟨w8.heap.size, 1, none⟩ = some (.int .i64 0) := By7.out.cell rfl
    have y2 : (W10).cell? ⟨w8.heap.size, 2, none⟩ = some (.int .i64 0) := By7.out.cell rfl
    have y3 : (W10).cell? ⟨w8.heap.size, 3, none⟩ = some (.string (txt s)) := By7.out.cell rfl
    have ly : w8.heap.size < (W10).heap.size := By7.out.lt
    have yf0 : (W10).frozen? ⟨w8.heap.size, 0, none⟩ = false := By7.out.frozen 0
    have yf1 : (W10).frozen? ⟨w8.heap.size, 1, none⟩ = false := By7.out.frozen 1
    have yf2 : (W10).frozen? ⟨w8.heap.size, 2, none⟩ = false := By7.out.frozen 2
    have yf3 : (W10).frozen? ⟨w8.heap.size, 3, none⟩ = false := By7.out.frozen 3
    have tokP : True := trivial
    go_wp2_with (first
      | (have _t := tokP
         at_builtin
         go_must (refine wpList_append_list rfl (.tmp 243) (.tmp 245) _ (by rfl) bs (W10.heap.size + 1) 46 jI _ 4 40 Tryd.underlying22 I.out.1 I.out.2.1 I.out.2.2.1 I.out.2.2.2 rfl (by omega) (R := Ins.Is) (l := oA) (m := [⟨op0, 0, 0, txt s⟩]) (.slice aO nO cO) (by rfl) (by exact (RO7.out.alloc (.cells #[.int .i64 op0, .int .i64 0, .int .i64 0, .string (txt s)] 46))) (some ⟨W10.heap.size, 0, none⟩) 1 1 (by rfl) (SlR.new1 (w := W10) (e := 46) (g := W10.heap.size) rfl (x := [.int .i64 op0, .int .i64 0, .int .i64 0, .string (txt s)]) rfl (R := Ins.Is) (y := ⟨op0, 0, 0, txt s⟩) ⟨rfl, ins_ok hsm1 hsm2 (by omega) (by omega) (by omega) (by omega) (by rw [txt_size]; have := shape_len HND.out.1; unfold maxLen; omega)⟩) (nO + 1) (by rw [HNO.out]) Ins.Is.one (by have := HNO.out; unfold maxLen; simp <;> omega) (by have := HNO.out; simp <;> omega) (by simp <;> omega) ?_)
         clear tokP _t
         intro aO' cO' w11 hown hgr
         go_must (have CS8 := Lib.hid ((CS7.out.alloc (.cells #[.int .i64 op0, .int .i64 0, .int .i64 0, .string (txt s)] 46)).grown ((RO7.out.alloc (.cells #[.int .i64 op0, .int .i64 0, .int .i64 0, .string (txt s)] 46)).mono (by have := CS7.out.lB; omega)) hgr))
         go_must (have RO8 := Lib.hid hown)
         go_must (have hsw11 : W10.heap.size < w11.heap.size := by have := hgr.size; simp at this; omega)
         clear hown hgr
         clear e0 x0 x1 x2 x3 le lx k0 y0 y1 y2 y3 ly yf0 yf1 yf2 yf3
         go_must (have e0 : (w11).cell? ⟨be, 0, none⟩ = some (.slice (some ⟨b, off, none⟩) nl lc) := CS8.out.eb.cell rfl)
         go_must (have x0 : (w11).cell? ⟨bx, 0, none⟩ = some (.int .i64 (10 : Int)) := CS8.out.xb.cell rfl)
         go_must (have x1 : (w11).cell? ⟨bx, 1, none⟩ = some (.string (txt s)) := CS8.out.xb.cell rfl)
         go_must (have x2 : (w11).cell? ⟨bx, 2, none⟩ = some (.int .i64 n) := CS8.out.xb.cell rfl)
         go_must (have x3 : (w11).cell? ⟨bx, 3, none⟩ = some (.slice (some ⟨kb, ko, none⟩) 1 kc) := CS8.out.xb.cell rfl)
         go_must (have le : be < (w11).heap.size := Nat.lt_of_lt_of_le CS8.out.le CS8.out.lB)
         go_must (have lx : bx < (w11).heap.size := Nat.lt_of_lt_of_le CS8.out.lx CS8.out.lB)
         go_must (have k0 : (w11).cell? ⟨kb, ko, none⟩ = some (.int .i64 (qta : Int)) := rkid_cell (j := 0) HKV.out Eta.out (HH.out.hw.trans (CS8.out.bel.mono HH.out.hw.size))))
      | fail)
    go_ret
    rw [HCR.out]
    exact rcodeK_of (RO8.out.mono (by omega)) CS8.out.bel
set_option maxRecDepth 100000 in
set_option maxHeartbeats 8000000 in
theorem rcode_named12 {l : List ND} {lv : Value} {W0 : World} {f p : Nat} {s : List Nat} {n m : Int} {ta : Tr} {vs : List (List Nat)} {W : World} (H : RPre l lv W0 (f + 1) (.node 12 s n [ta]) p vs m W) (ih : RCodeIs l lv W0 f) : Calls Tryd.prog 30 #[.agg #[lv], .int .i64 (p : Int), .int .i64 m] W (RCodeK W (cR (f + 1) (.node 12 s n [ta]) vs m)) := by
  obtain ⟨hd, hks⟩ := stands_node H.st
  obtain ⟨la, lc, rfl, _, _⟩ := H.hs.form
  have hpl := (List.getElem?_eq_some_iff.1 hd).1
  obtain ⟨nl, hnl⟩ : ∃ z, l.length = z := ⟨_, rfl⟩
  rw [hnl] at H hpl ⊢
  try rw [hnl] at ih
  have hB6 := H.hw.alloc H.hw.size (.cells #[.slice la nl lc] 38)
  have hhs := H.hs
  obtain ⟨b, off, x, rfl, hbB, hxl, ⟨kv, rfl, hkv⟩, hx⟩ := (hhs.below hB6).at_ hd
  obtain ⟨ka, kc, rfl, _, _⟩ := hkv.form
  simp only [List.length_map, places_len] at hkv hx
  simp only [List.length_cons, List.length_nil, Nat.zero_add, Nat.reduceAdd] at hkv hx
  have x0 := hx 0 _ rfl
  have x1 := hx 1 _ rfl
  have x2 := hx 2 _ rfl
  have x3 := hx 3 _ rfl
  simp only [Nat.add_zero] at x0
  have p0 : (0 : Int) ≤ (p : Int) := Int.natCast_nonneg _
  have p1 : (p : Int) < (nl : Int) := by omega
  have HH := Lib.hid H
  have HNL := Lib.hid hnl
  have HKV := Lib.hid hkv
  have m1 := H.m1
  have m2 : m ≤ 1000 := by have := H.mf; omega
  obtain ⟨jI, hi, hz, hsz, hby⟩ := info_parts info_Ins
  have I := Lib.hid (And.intro hi (And.intro hz (And.intro hsz hby)))
  clear hi hz hsz hby H hd hkv hx hxl hks hnl hhs hB6
  go_enter Tryd.func30, Tryd.ntmps30
  go_upto_region 1 with fail
  have e0 : (W.alloc (.cells #[(.slice (some ⟨b, off, none⟩) nl lc)] 38)).cell? ⟨W.heap.size, 0, none⟩ = some (.slice (some ⟨b, off, none⟩) nl lc) := (Blk.new W 38 #[(.slice (some ⟨b, off, none⟩) nl lc)]).cell rfl
  have lw0 : W.heap.size < (W.alloc (.cells #[(.slice (some ⟨b, off, none⟩) nl lc)] 38)).heap.size := (Blk.new W 38 #[(.slice (some ⟨b, off, none⟩) nl lc)]).lt
  generalize hW1 : W.alloc (.cells #[(.slice (some ⟨b, off, none⟩) nl lc)] 38) = W1 at *
  have HW1 := Lib.hid hW1
  clear hW1
  go_upto_region 4 with (first
    | (go_at_call 55; go_must (refine (rins_step _).mono ?_); rintro e w2 ⟨rfl, hb⟩; go_must (have HB := Lib.hid (CSt.make HW1.out.symm hb)); clear hb)
    | fail)
  clear x0 x1 x2 x3 e0 lw0
  have CS := Lib.hid (HB.out.alloc (.cells #[.int .i64 1, .int .i64 m, .int .i64 0, .string ⟨#[]⟩] 46))
  have SK := Lib.hid (Blk.new w2 46 #[.int .i64 1, .int .i64 m, .int .i64 0, .string ⟨#[]⟩])
  generalize hW3 : w2.alloc (.cells #[.int .i64 1, .int .i64 m, .int .i64 0, .string ⟨#[]⟩] 46) = W3 at *
  obtain ⟨be, hbe⟩ : ∃ z, W.heap.size = z := ⟨_, rfl⟩
  obtain ⟨bx, hbx⟩ : ∃ z, W1.heap.size = z := ⟨_, rfl⟩
  obtain ⟨bs, hbs⟩ : ∃ z, w2.heap.size = z := ⟨_, rfl⟩
  rw [hbe] at CS
  rw [hbx, hbs] at CS
  rw [hbs] at SK
  first | rw [hbe, hbx, hbs] | rw [hbx, hbe, hbs]
  clear HB hW3 hbx hbs HW1
  have e0 : (W3).cell? ⟨be, 0, none⟩ = some (.slice (some ⟨b, off, none⟩) nl lc) := CS.out.eb.cell rfl
  have x0 : (W3).cell? ⟨bx, 0, none⟩ = some (.int .i64 (12 : Int)) := CS.out.xb.cell rfl
  have x1 : (W3).cell? ⟨bx, 1, none⟩ = some (.string (txt s)) := CS.out.xb.cell rfl
  have x2 : (W3).cell? ⟨bx, 2, none⟩ = some (.int .i64 n) := CS.out.xb.cell rfl
  have x3 : (W3).cell? ⟨bx, 3, none⟩ = some (.slice ka 1 kc) := CS.out.xb.cell rfl
  have le : be < (W3).heap.size := Nat.lt_of_lt_of_le CS.out.le CS.out.lB
  have lx : bx < (W3).heap.size := Nat.lt_of_lt_of_le CS.out.lx CS.out.lB
  have HSZ : Hid (1 + sizeL [ta] ≤ 256) := Lib.hid (by have h1 := stands_size HH.out.st; have h2 := HH.out.hl; have := HNL.out; simp only [Tr.size] at h1; omega)
  obtain ⟨qta, sta, uta, eta⟩ := rkid HH.out.st HH.out.un (j := 0) (a := ta) rfl
  rw [if_neg (by omega)] at uta
  have Sta := Lib.hid sta
  have Vta := Lib.hid uta
  have Eta := Lib.hid eta
  clear sta uta eta
  obtain ⟨kb, ko, rfl⟩ := kid_form HKV.out (stands_node HH.out.st).2 (j := 0) (t := ta) rfl
  have wr1 : IntKind.i64.wrap (m + 1) = m + 1 := by rw [IntKind.wrap_i64]; omega
  have hs0 : bs ≤ W3.heap.size := CS.out.lB
  have hwl : W.heap.size ≤ bs := CS.out.wl
  obtain ⟨oA, hoA⟩ : ∃ z, cR f ta vs (m + 1) = z := ⟨_, rfl⟩
  have HOA := Lib.hid hoA
  have OPSA : Hid (∀ y ∈ oA, (1 ≤ y.op ∧ y.op ≤ 40) ∧ -1000000 ≤ y.arg ∧ y.arg ≤ 1000000) := Lib.hid (by rw [← hoA]; exact rcode_ops HH.out (j := 0) rfl (by simp) (by omega) (by omega))
  clear hoA
  have hcr : cR (f + 1) (.node 12 s n [ta]) vs m = oA ++ [⟨sameN 12, 0, 0, txt s⟩] := by rw [← HOA.out]; rfl
  have hop : opR (wordK 12) = sameN 12 := by rw [opR_wordK (by omega)]; unfold opK; rw [if_neg (by omega)]
  have hlk : decide (31 ≤ (12 : Int) ∧ (12 : Int) ≤ 34) = false := by simp; try omega
  have LK := Lib.hid (rloop_any (12 : Int))
  rw [hlk] at LK
  clear hlk
  have WK : Hid (∀ w, Calls Tryd.prog 56 #[.int .i64 (12 : Int)] w fun e w' => e = .returned (.string (wordK 12)) ∧ Quiet w w') := Lib.hid (fun w => rkind_any 12 (by omega) w)
  obtain ⟨wk, hwk⟩ : ∃ z, wordK 12 = z := ⟨_, rfl⟩
  rw [hwk] at WK hop
  have IK := Lib.hid (rins_any wk)
  rw [hop] at IK
  obtain ⟨op0, hop0⟩ : ∃ z, sameN 12 = z := ⟨_, rfl⟩
  have hsm : -9223372036854775808 ≤ op0 ∧ op0 ≤ 9223372036854775807 := by rw [← hop0]; exact sameN_rng (by omega)
  obtain ⟨hsm1, hsm2⟩ := hsm
  rw [hop0] at IK hcr
  have HCR := Lib.hid hcr
  clear hwk hop hop0 hcr
  have HND := Lib.hid HH.out.good.1
  clear e0 x0 x1 x2 x3 le lx
  have e0 : (W3).cell? ⟨be, 0, none⟩ = some (.slice (some ⟨b, off, none⟩) nl lc) := CS.out.eb.cell rfl
  have x0 : (W3).cell? ⟨bx, 0, none⟩ = some (.int .i64 (12 : Int)) := CS.out.xb.cell rfl
  have x1 : (W3).cell? ⟨bx, 1, none⟩ = some (.string (txt s)) := CS.out.xb.cell rfl
  have x2 : (W3).cell? ⟨bx, 2, none⟩ = some (.int .i64 n) := CS.out.xb.cell rfl
  have x3 : (W3).cell? ⟨bx, 3, none⟩ = some (.slice (some ⟨kb, ko, none⟩) 1 kc) := CS.out.xb.cell rfl
  have le : be < (W3).heap.size := Nat.lt_of_lt_of_le CS.out.le CS.out.lB
  have lx : bx < (W3).heap.size := Nat.lt_of_lt_of_le CS.out.lx CS.out.lB
  have k0 : (W3).cell? ⟨kb, ko, none⟩ = some (.int .i64 (qta : Int)) := rkid_cell (j := 0) HKV.out Eta.out (HH.out.hw.trans (CS.out.bel.mono HH.out.hw.size))
  go_upto_region 20 with fail
  go_still_tail 7, (by kernel_rfl)
  change wpList _ _ _ _ _ W3.drew
  have CS1 := Lib.hid (CS.out.drew)
  have hsW4 : W3.heap.size ≤ W3.drew.heap.size := Nat.le_refl _
  generalize W3.drew = W4 at *
  clear e0 x0 x1 x2 x3 le lx k0
  have e0 : (W4).cell? ⟨be, 0, none⟩ = some (.slice (some ⟨b, off, none⟩) nl lc) := CS1.out.eb.cell rfl
  have x0 : (W4).cell? ⟨bx, 0, none⟩ = some (.int .i64 (12 : Int)) := CS1.out.xb.cell rfl
  have x1 : (W4).cell? ⟨bx, 1, none⟩ = some (.string (txt s)) := CS1.out.xb.cell rfl
  have x2 : (W4).cell? ⟨bx, 2, none⟩ = some (.int .i64 n) := CS1.out.xb.cell rfl
  have x3 : (W4).cell? ⟨bx, 3, none⟩ = some (.slice (some ⟨kb, ko, none⟩) 1 kc) := CS1.out.xb.cell rfl
  have le : be < (W4).heap.size := Nat.lt_of_lt_of_le CS1.out.le CS1.out.lB
  have lx : bx < (W4).heap.size := Nat.lt_of_lt_of_le CS1.out.lx CS1.out.lB
  have k0 : (W4).cell? ⟨kb, ko, none⟩ = some (.int .i64 (qta : Int)) := rkid_cell (j := 0) HKV.out Eta.out (HH.out.hw.trans (CS1.out.bel.mono HH.out.hw.size))
  have tokA : True := trivial
  have tokL : True := trivial
  go_upto_region 44 with (first
    | (have _t := tokA; go_at_call 30; go_must (refine (ih ta qta vs (m + 1) _ (RPre.kid (j := 0) HH.out rfl Sta.out Vta.out (by simp) (by omega) (by omega) CS1.out.bel)).mono ?_); clear tokA _t
       rintro e w5 ⟨ov, rfl, hk1, hk2⟩
       go_must (have CS2 := Lib.hid (CS1.out.call hk2))
       rw [HOA.out] at hk1
       go_must (have hsw5 := hk2.size)
       obtain ⟨aA, cA, rfl⟩ := hk1.form
       obtain ⟨nA, hnA⟩ : ∃ z, (oA).length = z := ⟨_, rfl⟩
       rw [hnA] at hk1 ⊢
       go_must (have bA : nA ≤ 1024 := by rw [← hnA, ← HOA.out]; have := cR_len f ta vs (m + 1); have := HSZ.out; simp only [sizeL] at this; omega)
       go_must (have HNA := Lib.hid hnA)
       go_must (have UA := Lib.hid hk1.block)
       go_must (have RA := Lib.hid hk1)
       clear hnA hk1
       clear hk2
       clear e0 x0 x1 x2 x3 le lx k0
       go_must (have e0 : (w5).cell? ⟨be, 0, none⟩ = some (.slice (some ⟨b, off, none⟩) nl lc) := CS2.out.eb.cell rfl)
       go_must (have x0 : (w5).cell? ⟨bx, 0, none⟩ = some (.int .i64 (12 : Int)) := CS2.out.xb.cell rfl)
       go_must (have x1 : (w5).cell? ⟨bx, 1, none⟩ = some (.string (txt s)) := CS2.out.xb.cell rfl)
       go_must (have x2 : (w5).cell? ⟨bx, 2, none⟩ = some (.int .i64 n) := CS2.out.xb.cell rfl)
       go_must (have x3 : (w5).cell? ⟨bx, 3, none⟩ = some (.slice (some ⟨kb, ko, none⟩) 1 kc) := CS2.out.xb.cell rfl)
       go_must (have le : be < (w5).heap.size := Nat.lt_of_lt_of_le CS2.out.le CS2.out.lB)
       go_must (have lx : bx < (w5).heap.size := Nat.lt_of_lt_of_le CS2.out.lx CS2.out.lB)
       go_must (have k0 : (w5).cell? ⟨kb, ko, none⟩ = some (.int .i64 (qta : Int)) := rkid_cell (j := 0) HKV.out Eta.out (HH.out.hw.trans (CS2.out.bel.mono HH.out.hw.size))))
    | (have _t := tokL; go_at_call 59; go_must (refine (LK.out _).mono ?_); clear tokL _t
       rintro e w' ⟨rfl, nq, rfl⟩
       go_must (have CS3 := Lib.hid (CS2.out.drewN nq))
       go_must (have RA3 := Lib.hid (RA.out.drewN nq))
       go_must (have hsw5q : w5.heap.size ≤ (w5.drewN nq).heap.size := Nat.le_refl _)
       clear e0 x0 x1 x2 x3 le lx k0
       go_must (have e0 : ((w5.drewN nq)).cell? ⟨be, 0, none⟩ = some (.slice (some ⟨b, off, none⟩) nl lc) := CS3.out.eb.cell rfl)
       go_must (have x0 : ((w5.drewN nq)).cell? ⟨bx, 0, none⟩ = some (.int .i64 (12 : Int)) := CS3.out.xb.cell rfl)
       go_must (have x1 : ((w5.drewN nq)).cell? ⟨bx, 1, none⟩ = some (.string (txt s)) := CS3.out.xb.cell rfl)
       go_must (have x2 : ((w5.drewN nq)).cell? ⟨bx, 2, none⟩ = some (.int .i64 n) := CS3.out.xb.cell rfl)
       go_must (have x3 : ((w5.drewN nq)).cell? ⟨bx, 3, none⟩ = some (.slice (some ⟨kb, ko, none⟩) 1 kc) := CS3.out.xb.cell rfl)
       go_must (have le : be < ((w5.drewN nq)).heap.size := Nat.lt_of_lt_of_le CS3.out.le CS3.out.lB)
       go_must (have lx : bx < ((w5.drewN nq)).heap.size := Nat.lt_of_lt_of_le CS3.out.lx CS3.out.lB)
       go_must (have k0 : ((w5.drewN nq)).cell? ⟨kb, ko, none⟩ = some (.int .i64 (qta : Int)) := rkid_cell (j := 0) HKV.out Eta.out (HH.out.hw.trans (CS3.out.bel.mono HH.out.hw.size))))
    | fail)
  generalize (w5.drewN nq) = W6 at *
  go_wp2_with fail
  go_loopw [11, 21] (fun v11 v21 wr => v21 = .int .i64 1 ∧ Hid (Own1 wr bs 46 4 Ins.Is v11 (oA) ∧ CSt W wr (.slice (some ⟨b, off, none⟩) nl lc) be bx #[.int .i64 (12 : Int), .string (txt s), .int .i64 n, .slice (some ⟨kb, ko, none⟩) 1 kc] bs)) (fun _ v21 _ => 2 - (intOf v21).toNat)
  case atStart => exact ⟨rfl, Lib.hid ⟨(RA3.out.mono (by omega)), CS3.out⟩⟩
  case round =>
    obtain ⟨rfl, hq0⟩ := hrel
    have hq := hq0.out
    clear hq0
    have CSr := Lib.hid hq.2
    have hk1 := hq.1
    clear hq
    have hsr : bs ≤ wr.heap.size := CSr.out.lB
    obtain ⟨aO, cO, rfl⟩ := hk1.form
    obtain ⟨nO, hnO⟩ : ∃ z, (oA).length = z := ⟨_, rfl⟩
    rw [hnO] at hk1 ⊢
    have bO : nO ≤ 1024 := by rw [← hnO, ← HOA.out]; have := cR_len f ta vs (m + 1); have := HSZ.out; simp only [sizeL] at this; omega
    have HNO := Lib.hid hnO
    have UO := Lib.hid hk1.block
    have RO := Lib.hid hk1
    clear hnO hk1
    clear e0 x0 x1 x2 x3 le lx k0
    have e0 : (wr).cell? ⟨be, 0, none⟩ = some (.slice (some ⟨b, off, none⟩) nl lc) := CSr.out.eb.cell rfl
    have x0 : (wr).cell? ⟨bx, 0, none⟩ = some (.int .i64 (12 : Int)) := CSr.out.xb.cell rfl
    have x1 : (wr).cell? ⟨bx, 1, none⟩ = some (.string (txt s)) := CSr.out.xb.cell rfl
    have x2 : (wr).cell? ⟨bx, 2, none⟩ = some (.int .i64 n) := CSr.out.xb.cell rfl
    have x3 : (wr).cell? ⟨bx, 3, none⟩ = some (.slice (some ⟨kb, ko, none⟩) 1 kc) := CSr.out.xb.cell rfl
    have le : be < (wr).heap.size := Nat.lt_of_lt_of_le CSr.out.le CSr.out.lB
    have lx : bx < (wr).heap.size := Nat.lt_of_lt_of_le CSr.out.lx CSr.out.lB
    have k0 : (wr).cell? ⟨kb, ko, none⟩ = some (.int .i64 (qta : Int)) := rkid_cell (j := 0) HKV.out Eta.out (HH.out.hw.trans (CSr.out.bel.mono HH.out.hw.size))
    have tokW : True := trivial
    have tokI : True := trivial
    go_upto_region 49 with (first
      | (have _t := tokW; go_at_call 56; go_must (refine (WK.out _).mono ?_); clear tokW _t
         rintro e w' ⟨rfl, nq, rfl⟩
         go_must (have CS4 := Lib.hid (CSr.out.drewN nq))
         go_must (have RO4 := Lib.hid (RO.out.drewN nq))
         go_must (have hswrq : wr.heap.size ≤ (wr.drewN nq).heap.size := Nat.le_refl _)
         clear e0 x0 x1 x2 x3 le lx k0
         go_must (have e0 : ((wr.drewN nq)).cell? ⟨be, 0, none⟩ = some (.slice (some ⟨b, off, none⟩) nl lc) := CS4.out.eb.cell rfl)
         go_must (have x0 : ((wr.drewN nq)).cell? ⟨bx, 0, none⟩ = some (.int .i64 (12 : Int)) := CS4.out.xb.cell rfl)
         go_must (have x1 : ((wr.drewN nq)).cell? ⟨bx, 1, none⟩ = some (.string (txt s)) := CS4.out.xb.cell rfl)
         go_must (have x2 : ((wr.drewN nq)).cell? ⟨bx, 2, none⟩ = some (.int .i64 n) := CS4.out.xb.cell rfl)
         go_must (have x3 : ((wr.drewN nq)).cell? ⟨bx, 3, none⟩ = some (.slice (some ⟨kb, ko, none⟩) 1 kc) := CS4.out.xb.cell rfl)
         go_must (have le : be < ((wr.drewN nq)).heap.size := Nat.lt_of_lt_of_le CS4.out.le CS4.out.lB)
         go_must (have lx : bx < ((wr.drewN nq)).heap.size := Nat.lt_of_lt_of_le CS4.out.lx CS4.out.lB)
         go_must (have k0 : ((wr.drewN nq)).cell? ⟨kb, ko, none⟩ = some (.int .i64 (qta : Int)) := rkid_cell (j := 0) HKV.out Eta.out (HH.out.hw.trans (CS4.out.bel.mono HH.out.hw.size))))
      | (have _t := tokI; go_at_call 55; go_must (refine (IK.out _).mono ?_); clear tokI _t
         rintro e w8 ⟨rfl, hb⟩
         go_must (have CS5 := Lib.hid (CS4.out.call hb))
         go_must (have RO5 := Lib.hid (RO4.out.below hb (Nat.le_refl _)))
         go_must (have hsw8 := hb.size)
         clear hb
         clear e0 x0 x1 x2 x3 le lx k0
         go_must (have e0 : (w8).cell? ⟨be, 0, none⟩ = some (.slice (some ⟨b, off, none⟩) nl lc) := CS5.out.eb.cell rfl)
         go_must (have x0 : (w8).cell? ⟨bx, 0, none⟩ = some (.int .i64 (12 : Int)) := CS5.out.xb.cell rfl)
         go_must (have x1 : (w8).cell? ⟨bx, 1, none⟩ = some (.string (txt s)) := CS5.out.xb.cell rfl)
         go_must (have x2 : (w8).cell? ⟨bx, 2, none⟩ = some (.int .i64 n) := CS5.out.xb.cell rfl)
         go_must (have x3 : (w8).cell? ⟨bx, 3, none⟩ = some (.slice (some ⟨kb, ko, none⟩) 1 kc) := CS5.out.xb.cell rfl)
         go_must (have le : be < (w8).heap.size := Nat.lt_of_lt_of_le CS5.out.le CS5.out.lB)
         go_must (have lx : bx < (w8).heap.size := Nat.lt_of_lt_of_le CS5.out.lx CS5.out.lB)
         go_must (have k0 : (w8).cell? ⟨kb, ko, none⟩ = some (.int .i64 (qta : Int)) := rkid_cell (j := 0) HKV.out Eta.out (HH.out.hw.trans (CS5.out.bel.mono HH.out.hw.size))))
      | fail)
    have CS6 := Lib.hid (CS5.out.alloc (.cells #[.int .i64 op0, .int .i64 0, .int .i64 0, .string ⟨#[]⟩] 46))
    have RO6 := Lib.hid (RO5.out.alloc (.cells #[.int .i64 op0, .int .i64 0, .int .i64 0, .string ⟨#[]⟩] 46))
    have By := Lib.hid (Blk.new w8 46 #[.int .i64 op0, .int .i64 0, .int .i64 0, .string ⟨#[]⟩])
    have hsW9 : w8.heap.size < (w8.alloc (.cells #[.int .i64 op0, .int .i64 0, .int .i64 0, .string ⟨#[]⟩] 46)).heap.size := by simp
    generalize w8.alloc (.cells #[.int .i64 op0, .int .i64 0, .int .i64 0, .string ⟨#[]⟩] 46) = W9 at *
    clear e0 x0 x1 x2 x3 le lx k0
    have e0 : (W9).cell? ⟨be, 0, none⟩ = some (.slice (some ⟨b, off, none⟩) nl lc) := CS6.out.eb.cell rfl
    have x0 : (W9).cell? ⟨bx, 0, none⟩ = some (.int .i64 (12 : Int)) := CS6.out.xb.cell rfl
    have x1 : (W9).cell? ⟨bx, 1, none⟩ = some (.string (txt s)) := CS6.out.xb.cell rfl
    have x2 : (W9).cell? ⟨bx, 2, none⟩ = some (.int .i64 n) := CS6.out.xb.cell rfl
    have x3 : (W9).cell? ⟨bx, 3, none⟩ = some (.slice (some ⟨kb, ko, none⟩) 1 kc) := CS6.out.xb.cell rfl
    have le : be < (W9).heap.size := Nat.lt_of_lt_of_le CS6.out.le CS6.out.lB
    have lx : bx < (W9).heap.size := Nat.lt_of_lt_of_le CS6.out.lx CS6.out.lB
    have k0 : (W9).cell? ⟨kb, ko, none⟩ = some (.int .i64 (qta : Int)) := rkid_cell (j := 0) HKV.out Eta.out (HH.out.hw.trans (CS6.out.bel.mono HH.out.hw.size))
    have y0 : (W9).cell? ⟨w8.heap.size, 0, none⟩ = some (.int .i64 op0) := By.out.cell rfl
    have y1 : (W9).cell? ⟨w8.heap.size, 1, none⟩ = some (.int .i64 0) := By.out.cell rfl
    have y2 : (W9).cell? ⟨w8.heap.size, 2, none⟩ = some (.int .i64 0) := By.out.cell rfl
    have y3 : (W9).cell? ⟨w8.heap.size, 3, none⟩ = some (.string ⟨#[]⟩) := By.out.cell rfl
    have ly : w8.heap.size < (W9).heap.size := By.out.lt
    have yf0 : (W9).frozen? ⟨w8.heap.size, 0, none⟩ = false := By.out.frozen 0
    have yf1 : (W9).frozen? ⟨w8.heap.size, 1, none⟩ = false := By.out.frozen 1
    have yf2 : (W9).frozen? ⟨w8.heap.size, 2, none⟩ = false := By.out.frozen 2
    have yf3 : (W9).frozen? ⟨w8.heap.size, 3, none⟩ = false := By.out.frozen 3
    go_upto_region 51 with fail
    generalize hW10 : World.setCell _ _ _ = W10
    have CS7 : Hid (CSt W W10 (.slice (some ⟨b, off, none⟩) nl lc) be bx #[.int .i64 (12 : Int), .string (txt s), .int .i64 n, .slice (some ⟨kb, ko, none⟩) 1 kc] bs) := Lib.hid (by rw [← hW10]; exact (CS6.out.set_ (g := w8.heap.size) (by omega) _ _))
    have RO7 : Hid (Own1 W10 bs 46 4 Ins.Is (.slice aO nO cO) oA) := Lib.hid (by rw [← hW10]; exact (RO6.out.setOther (p := ⟨w8.heap.size, 3, none⟩) (fun e => by have := UO.out (w8.heap.size) e; omega) _))
    have By7 : Hid (Blk W10 w8.heap.size 46 #[.int .i64 op0, .int .i64 0, .int .i64 0, .string (txt s)]) := Lib.hid (by rw [← hW10]; have := (By.out.set_ 3 (.string (txt s))); simpa using this)
    have hsW10 : W9.heap.size ≤ W10.heap.size := by rw [← hW10]; simp
    clear hW10
    clear e0 x0 x1 x2 x3 le lx k0 y0 y1 y2 y3 ly yf0 yf1 yf2 yf3
    have e0 : (W10).cell? ⟨be, 0, none⟩ = some (.slice (some ⟨b, off, none⟩) nl lc) := CS7.out.eb.cell rfl
    have x0 : (W10).cell? ⟨bx, 0, none⟩ = some (.int .i64 (12 : Int)) := CS7.out.xb.cell rfl
    have x1 : (W10).cell? ⟨bx, 1, none⟩ = some (.string (txt s)) := CS7.out.xb.cell rfl
    have x2 : (W10).cell? ⟨bx, 2, none⟩ = some (.int .i64 n) := CS7.out.xb.cell rfl
    have x3 : (W10).cell? ⟨bx, 3, none⟩ = some (.slice (some ⟨kb, ko, none⟩) 1 kc) := CS7.out.xb.cell rfl
    have le : be < (W10).heap.size := Nat.lt_of_lt_of_le CS7.out.le CS7.out.lB
    have lx : bx < (W10).heap.size := Nat.lt_of_lt_of_le CS7.out.lx CS7.out.lB
    have k0 : (W10).cell? ⟨kb, ko, none⟩ = some (.int .i64 (qta : Int)) := rkid_cell (j := 0) HKV.out Eta.out (HH.out.hw.trans (CS7.out.bel.mono HH.out.hw.size))
    have y0 : (W10).cell? ⟨w8.heap.size, 0, none⟩ = some (.int .i64 op0) := By7.out.cell rfl
    have y1 : (W10).cell? ⟨w8.heap.size, 1, none⟩ = some (.int .i64 0) := By7.out.cell rfl
    have y2 : (W10).cell? ⟨w8.heap.size, 2, none⟩ = some (.int .i64 0) := By7.out.cell rfl
    have y3 : (W10).cell? ⟨w8.heap.size, 3, none⟩ = some (.string (txt s)) := By7.out.cell rfl
    have ly : w8.heap.size < (W10).heap.size := By7.out.lt
    have yf0 : (W10).frozen? ⟨w8.heap.size, 0, none⟩ = false := By7.out.frozen 0
    have yf1 : (W10).frozen? ⟨w8.heap.size, 1, none⟩ = false := By7.out.frozen 1
    have yf2 : (W10).frozen? ⟨w8.heap.size, 2, none⟩ = false := By7.out.frozen 2
    have yf3 : (W10).frozen? ⟨w8.heap.size, 3, none⟩ = false := By7.out.frozen 3
    have tokP : True := trivial
    go_wp2_with (first
      | (have _t := tokP
         at_builtin
         go_must (refine wpList_append_list rfl (.tmp 243) (.tmp 245) _ (by rfl) bs (W10.heap.size + 1) 46 jI _ 4 40 Tryd.underlying22 I.out.1 I.out.2.1 I.out.2.2.1 I.out.2.2.2 rfl (by omega) (R := Ins.Is) (l := oA) (m := [⟨op0, 0, 0, txt s⟩]) (.slice aO nO cO) (by rfl) (by exact (RO7.out.alloc (.cells #[.int .i64 op0, .int .i64 0, .int .i64 0, .string (txt s)] 46))) (some ⟨W10.heap.size, 0, none⟩) 1 1 (by rfl) (SlR.new1 (w := W10) (e := 46) (g := W10.heap.size) rfl (x := [.int .i64 op0, .int .i64 0, .int .i64 0, .string (txt s)]) rfl (R := Ins.Is) (y := ⟨op0, 0, 0, txt s⟩) ⟨rfl, ins_ok hsm1 hsm2 (by omega) (by omega) (by omega) (by omega) (by rw [txt_size]; have := shape_len HND.out.1; unfold maxLen; omega)⟩) (nO + 1) (by rw [HNO.out]) Ins.Is.one (by have := HNO.out; unfold maxLen; simp <;> omega) (by have := HNO.out; simp <;> omega) (by simp <;> omega) ?_)
         clear tokP _t
         intro aO' cO' w11 hown hgr
         go_must (have CS8 := Lib.hid ((CS7.out.alloc (.cells #[.int .i64 op0, .int .i64 0, .int .i64 0, .string (txt s)] 46)).grown ((RO7.out.alloc (.cells #[.int .i64 op0, .int .i64 0, .int .i64 0, .string (txt s)] 46)).mono (by have := CS7.out.lB; omega)) hgr))
         go_must (have RO8 := Lib.hid hown)
         go_must (have hsw11 : W10.heap.size < w11.heap.size := by have := hgr.size; simp at this; omega)
         clear hown hgr
         clear e0 x0 x1 x2 x3 le lx k0 y0 y1 y2 y3 ly yf0 yf1 yf2 yf3
         go_must (have e0 : (w11).cell? ⟨be, 0, none⟩ = some (.slice (some ⟨b, off, none⟩) nl lc) := CS8.out.eb.cell rfl)
         go_must (have x0 : (w11).cell? ⟨bx, 0, none⟩ = some (.int .i64 (12 : Int)) := CS8.out.xb.cell rfl)
         go_must (have x1 : (w11).cell? ⟨bx, 1, none⟩ = some (.string (txt s)) := CS8.out.xb.cell rfl)
         go_must (have x2 : (w11).cell? ⟨bx, 2, none⟩ = some (.int .i64 n) := CS8.out.xb.cell rfl)
         go_must (have x3 : (w11).cell? ⟨bx, 3, none⟩ = some (.slice (some ⟨kb, ko, none⟩) 1 kc) := CS8.out.xb.cell rfl)
         go_must (have le : be < (w11).heap.size := Nat.lt_of_lt_of_le CS8.out.le CS8.out.lB)
         go_must (have lx : bx < (w11).heap.size := Nat.lt_of_lt_of_le CS8.out.lx CS8.out.lB)
         go_must (have k0 : (w11).cell? ⟨kb, ko, none⟩ = some (.int .i64 (qta : Int)) := rkid_cell (j := 0) HKV.out Eta.out (HH.out.hw.trans (CS8.out.bel.mono HH.out.hw.size))))
      | fail)
    go_ret
    rw [HCR.out]
    exact rcodeK_of (RO8.out.mono (by omega)) CS8.out.bel
set_option maxRecDepth 100000 in
set_option maxHeartbeats 8000000 in
theorem rcode_named13 {l : List ND} {lv : Value} {W0 : World} {f p : Nat} {s : List Nat} {n m : Int} {ta : Tr} {vs : List (List Nat)} {W : World} (H : RPre l lv W0 (f + 1) (.node 13 s n [ta]) p vs m W) (ih : RCodeIs l lv W0 f) : Calls Tryd.prog 30 #[.agg #[lv], .int .i64 (p : Int), .int .i64 m] W (RCodeK W (cR (f + 1) (.node 13 s n [ta]) vs m)) := by
  obtain ⟨hd, hks⟩ := stands_node H.st
  obtain ⟨la, lc, rfl, _, _⟩ := H.hs.form
  have hpl := (List.getElem?_eq_some_iff.1 hd).1
  obtain ⟨nl, hnl⟩ : ∃ z, l.length = z := ⟨_, rfl⟩
  rw [hnl] at H hpl ⊢
  try rw [hnl] at ih
  have hB6 := H.hw.alloc H.hw.size (.cells #[.slice la nl lc] 38)
  have hhs := H.hs
  obtain ⟨b, off, x, rfl, hbB, hxl, ⟨kv, rfl, hkv⟩, hx⟩ := (hhs.below hB6).at_ hd
  obtain ⟨ka, kc, rfl, _, _⟩ := hkv.form
  simp only [List.length_map, places_len] at hkv hx
  simp only [List.length_cons, List.length_nil, Nat.zero_add, Nat.reduceAdd] at hkv hx
  have x0 := hx 0 _ rfl
  have x1 := hx 1 _ rfl
  have x2 := hx 2 _ rfl
  have x3 := hx 3 _ rfl
  simp only [Nat.add_zero] at x0
  have p0 : (0 : Int) ≤ (p : Int) := Int.natCast_nonneg _
  have p1 : (p : Int) < (nl : Int) := by omega
  have HH := Lib.hid H
  have HNL := Lib.hid hnl
  have HKV := Lib.hid hkv
  have m1 := H.m1
  have m2 : m ≤ 1000 := by have := H.mf; omega
  obtain ⟨jI, hi, hz, hsz, hby⟩ := info_parts info_Ins
  have I := Lib.hid (And.intro hi (And.intro hz (And.intro hsz hby)))
  clear hi hz hsz hby H hd hkv hx hxl hks hnl hhs hB6
  go_enter Tryd.func30, Tryd.ntmps30
  go_upto_region 1 with fail
  have e0 : (W.alloc (.cells #[(.slice (some ⟨b, off, none⟩) nl lc)] 38)).cell? ⟨W.heap.size, 0, none⟩ = some (.slice (some ⟨b, off, none⟩) nl lc) := (Blk.new W 38 #[(.slice (some ⟨b, off, none⟩) nl lc)]).cell rfl
  have lw0 : W.heap.size < (W.alloc (.cells #[(.slice (some ⟨b, off, none⟩) nl lc)] 38)).heap.size := (Blk.new W 38 #[(.slice (some ⟨b, off, none⟩) nl lc)]).lt
  generalize hW1 : W.alloc (.cells #[(.slice (some ⟨b, off, none⟩) nl lc)] 38) = W1 at *
  have HW1 := Lib.hid hW1
  clear hW1
  go_upto_region 4 with (first
    | (go_at_call 55; go_must (refine (rins_step _).mono ?_); rintro e w2 ⟨rfl, hb⟩; go_must (have HB := Lib.hid (CSt.make HW1.out.symm hb)); clear hb)
    | fail)
  clear x0 x1 x2 x3 e0 lw0
  have CS := Lib.hid (HB.out.alloc (.cells #[.int .i64 1, .int .i64 m, .int .i64 0, .string ⟨#[]⟩] 46))
  have SK := Lib.hid (Blk.new w2 46 #[.int .i64 1, .int .i64 m, .int .i64 0, .string ⟨#[]⟩])
  generalize hW3 : w2.alloc (.cells #[.int .i64 1, .int .i64 m, .int .i64 0, .string ⟨#[]⟩] 46) = W3 at *
  obtain ⟨be, hbe⟩ : ∃ z, W.heap.size = z := ⟨_, rfl⟩
  obtain ⟨bx, hbx⟩ : ∃ z, W1.heap.size = z := ⟨_, rfl⟩
  obtain ⟨bs, hbs⟩ : ∃ z, w2.heap.size = z := ⟨_, rfl⟩
  rw [hbe] at CS
  rw [hbx, hbs] at CS
  rw [hbs] at SK
  first | rw [hbe, hbx, hbs] | rw [hbx, hbe, hbs]
  clear HB hW3 hbx hbs HW1
  have e0 : (W3).cell? ⟨be, 0, none⟩ = some (.slice (some ⟨b, off, none⟩) nl lc) := CS.out.eb.cell rfl
  have x0 : (W3).cell? ⟨bx, 0, none⟩ = some (.int .i64 (13 : Int)) := CS.out.xb.cell rfl
  have x1 : (W3).cell? ⟨bx, 1, none⟩ = some (.string (txt s)) := CS.out.xb.cell rfl
  have x2 : (W3).cell? ⟨bx, 2, none⟩ = some (.int .i64 n) := CS.out.xb.cell rfl
  have x3 : (W3).cell? ⟨bx, 3, none⟩ = some (.slice ka 1 kc) := CS.out.xb.cell rfl
  have le : be < (W3).heap.size := Nat.lt_of_lt_of_le CS.out.le CS.out.lB
  have lx : bx < (W3).heap.size := Nat.lt_of_lt_of_le CS.out.lx CS.out.lB
  have HSZ : Hid (1 + sizeL [ta] ≤ 256) := Lib.hid (by have h1 := stands_size HH.out.st; have h2 := HH.out.hl; have := HNL.out; simp only [Tr.size] at h1; omega)
  obtain ⟨qta, sta, uta, eta⟩ := rkid HH.out.st HH.out.un (j := 0) (a := ta) rfl
  rw [if_neg (by omega)] at uta
  have Sta := Lib.hid sta
  have Vta := Lib.hid uta
  have Eta := Lib.hid eta
  clear sta uta eta
  obtain ⟨kb, ko, rfl⟩ := kid_form HKV.out (stands_node HH.out.st).2 (j := 0) (t := ta) rfl
  have wr1 : IntKind.i64.wrap (m + 1) = m + 1 := by rw [IntKind.wrap_i64]; omega
  have hs0 : bs ≤ W3.heap.size := CS.out.lB
  have hwl : W.heap.size ≤ bs := CS.out.wl
  obtain ⟨oA, hoA⟩ : ∃ z, cR f ta vs (m + 1) = z := ⟨_, rfl⟩
  have HOA := Lib.hid hoA
  have OPSA : Hid (∀ y ∈ oA, (1 ≤ y.op ∧ y.op ≤ 40) ∧ -1000000 ≤ y.arg ∧ y.arg ≤ 1000000) := Lib.hid (by rw [← hoA]; exact rcode_ops HH.out (j := 0) rfl (by simp) (by omega) (by omega))
  clear hoA
  have hcr : cR (f + 1) (.node 13 s n [ta]) vs m = oA ++ [⟨sameN 13, 0, 0, txt s⟩] := by rw [← HOA.out]; rfl
  have hop : opR (wordK 13) = sameN 13 := by rw [opR_wordK (by omega)]; unfold opK; rw [if_neg (by omega)]
  have hlk : decide (31 ≤ (13 : Int) ∧ (13 : Int) ≤ 34) = false := by simp; try omega
  have LK := Lib.hid (rloop_any (13 : Int))
  rw [hlk] at LK
  clear hlk
  have WK : Hid (∀ w, Calls Tryd.prog 56 #[.int .i64 (13 : Int)] w fun e w' => e = .returned (.string (wordK 13)) ∧ Quiet w w') := Lib.hid (fun w => rkind_any 13 (by omega) w)
  obtain ⟨wk, hwk⟩ : ∃ z, wordK 13 = z := ⟨_, rfl⟩
  rw [hwk] at WK hop
  have IK := Lib.hid (rins_any wk)
  rw [hop] at IK
  obtain ⟨op0, hop0⟩ : ∃ z, sameN 13 = z := ⟨_, rfl⟩
  have hsm : -9223372036854775808 ≤ op0 ∧ op0 ≤ 9223372036854775807 := by rw [← hop0]; exact sameN_rng (by omega)
  obtain ⟨hsm1, hsm2⟩ := hsm
  rw [hop0] at IK hcr
  have HCR := Lib.hid hcr
  clear hwk hop hop0 hcr
  have HND := Lib.hid HH.out.good.1
  clear e0 x0 x1 x2 x3 le lx
  have e0 : (W3).cell? ⟨be, 0, none⟩ = some (.slice (some ⟨b, off, none⟩) nl lc) := CS.out.eb.cell rfl
  have x0 : (W3).cell? ⟨bx, 0, none⟩ = some (.int .i64 (13 : Int)) := CS.out.xb.cell rfl
  have x1 : (W3).cell? ⟨bx, 1, none⟩ = some (.string (txt s)) := CS.out.xb.cell rfl
  have x2 : (W3).cell? ⟨bx, 2, none⟩ = some (.int .i64 n) := CS.out.xb.cell rfl
  have x3 : (W3).cell? ⟨bx, 3, none⟩ = some (.slice (some ⟨kb, ko, none⟩) 1 kc) := CS.out.xb.cell rfl
  have le : be < (W3).heap.size := Nat.lt_of_lt_of_le CS.out.le CS.out.lB
  have lx : bx < (W3).heap.size := Nat.lt_of_lt_of_le CS.out.lx CS.out.lB
  have k0 : (W3).cell? ⟨kb, ko, none⟩ = some (.int .i64 (qta : Int)) := rkid_cell (j := 0) HKV.out Eta.out (HH.out.hw.trans (CS.out.bel.mono HH.out.hw.size))
  go_upto_region 20 with fail
  go_still_tail 7, (by kernel_rfl)
  change wpList _ _ _ _ _ W3.drew
  have CS1 := Lib.hid (CS.out.drew)
  have hsW4 : W3.heap.size ≤ W3.drew.heap.size := Nat.le_refl _
  generalize W3.drew = W4 at *
  clear e0 x0 x1 x2 x3 le lx k0
  have e0 : (W4).cell? ⟨be, 0, none⟩ = some (.slice (some ⟨b, off, none⟩) nl lc) := CS1.out.eb.cell rfl
  have x0 : (W4).cell? ⟨bx, 0, none⟩ = some (.int .i64 (13 : Int)) := CS1.out.xb.cell rfl
  have x1 : (W4).cell? ⟨bx, 1, none⟩ = some (.string (txt s)) := CS1.out.xb.cell rfl
  have x2 : (W4).cell? ⟨bx, 2, none⟩ = some (.int .i64 n) := CS1.out.xb.cell rfl
  have x3 : (W4).cell? ⟨bx, 3, none⟩ = some (.slice (some ⟨kb, ko, none⟩) 1 kc) := CS1.out.xb.cell rfl
  have le : be < (W4).heap.size := Nat.lt_of_lt_of_le CS1.out.le CS1.out.lB
  have lx : bx < (W4).heap.size := Nat.lt_of_lt_of_le CS1.out.lx CS1.out.lB
  have k0 : (W4).cell? ⟨kb, ko, none⟩ = some (.int .i64 (qta : Int)) := rkid_cell (j := 0) HKV.out Eta.out (HH.out.hw.trans (CS1.out.bel.mono HH.out.hw.size))
  have tokA : True := trivial
  have tokL : True := trivial
  go_upto_region 44 with (first
    | (have _t := tokA; go_at_call 30; go_must (refine (ih ta qta vs (m + 1) _ (RPre.kid (j := 0) HH.out rfl Sta.out Vta.out (by simp) (by omega) (by omega) CS1.out.bel)).mono ?_); clear tokA _t
       rintro e w5 ⟨ov, rfl, hk1, hk2⟩
       go_must (have CS2 := Lib.hid (CS1.out.call hk2))
       rw [HOA.out] at hk1
       go_must (have hsw5 := hk2.size)
       obtain ⟨aA, cA, rfl⟩ := hk1.form
       obtain ⟨nA, hnA⟩ : ∃ z, (oA).length = z := ⟨_, rfl⟩
       rw [hnA] at hk1 ⊢
       go_must (have bA : nA ≤ 1024 := by rw [← hnA, ← HOA.out]; have := cR_len f ta vs (m + 1); have := HSZ.out; simp only [sizeL] at this; omega)
       go_must (have HNA := Lib.hid hnA)
       go_must (have UA := Lib.hid hk1.block)
       go_must (have RA := Lib.hid hk1)
       clear hnA hk1
       clear hk2
       clear e0 x0 x1 x2 x3 le lx k0
       go_must (have e0 : (w5).cell? ⟨be, 0, none⟩ = some (.slice (some ⟨b, off, none⟩) nl lc) := CS2.out.eb.cell rfl)
       go_must (have x0 : (w5).cell? ⟨bx, 0, none⟩ = some (.int .i64 (13 : Int)) := CS2.out.xb.cell rfl)
       go_must (have x1 : (w5).cell? ⟨bx, 1, none⟩ = some (.string (txt s)) := CS2.out.xb.cell rfl)
       go_must (have x2 : (w5).cell? ⟨bx, 2, none⟩ = some (.int .i64 n) := CS2.out.xb.cell rfl)
       go_must (have x3 : (w5).cell? ⟨bx, 3, none⟩ = some (.slice (some ⟨kb, ko, none⟩) 1 kc) := CS2.out.xb.cell rfl)
       go_must (have le : be < (w5).heap.size := Nat.lt_of_lt_of_le CS2.out.le CS2.out.lB)
       go_must (have lx : bx < (w5).heap.size := Nat.lt_of_lt_of_le CS2.out.lx CS2.out.lB)
       go_must (have k0 : (w5).cell? ⟨kb, ko, none⟩ = some (.int .i64 (qta : Int)) := rkid_cell (j := 0) HKV.out Eta.out (HH.out.hw.trans (CS2.out.bel.mono HH.out.hw.size))))
    | (have _t := tokL; go_at_call 59; go_must (refine (LK.out _).mono ?_); clear tokL _t
       rintro e w' ⟨rfl, nq, rfl⟩
       go_must (have CS3 := Lib.hid (CS2.out.drewN nq))
       go_must (have RA3 := Lib.hid (RA.out.drewN nq))
       go_must (have hsw5q : w5.heap.size ≤ (w5.drewN nq).heap.size := Nat.le_refl _)
       clear e0 x0 x1 x2 x3 le lx k0
       go_must (have e0 : ((w5.drewN nq)).cell? ⟨be, 0, none⟩ = some (.slice (some ⟨b, off, none⟩) nl lc) := CS3.out.eb.cell rfl)
       go_must (have x0 : ((w5.drewN nq)).cell? ⟨bx, 0, none⟩ = some (.int .i64 (13 : Int)) := CS3.out.xb.cell rfl)
       go_must (have x1 : ((w5.drewN nq)).cell? ⟨bx, 1, none⟩ = some (.string (txt s)) := CS3.out.xb.cell rfl)
       go_must (have x2 : ((w5.drewN nq)).cell? ⟨bx, 2, none⟩ = some (.int .i64 n) := CS3.out.xb.cell rfl)
       go_must (have x3 : ((w5.drewN nq)).cell? ⟨bx, 3, none⟩ = some (.slice (some ⟨kb, ko, none⟩) 1 kc) := CS3.out.xb.cell rfl)
       go_must (have le : be < ((w5.drewN nq)).heap.size := Nat.lt_of_lt_of_le CS3.out.le CS3.out.lB)
       go_must (have lx : bx < ((w5.drewN nq)).heap.size := Nat.lt_of_lt_of_le CS3.out.lx CS3.out.lB)
       go_must (have k0 : ((w5.drewN nq)).cell? ⟨kb, ko, none⟩ = some (.int .i64 (qta : Int)) := rkid_cell (j := 0) HKV.out Eta.out (HH.out.hw.trans (CS3.out.bel.mono HH.out.hw.size))))
    | fail)
  generalize (w5.drewN nq) = W6 at *
  go_wp2_with fail
  go_loopw [11, 21] (fun v11 v21 wr => v21 = .int .i64 1 ∧ Hid (Own1 wr bs 46 4 Ins.Is v11 (oA) ∧ CSt W wr (.slice (some ⟨b, off, none⟩) nl lc) be bx #[.int .i64 (13 : Int), .string (txt s), .int .i64 n, .slice (some ⟨kb, ko, none⟩) 1 kc] bs)) (fun _ v21 _ => 2 - (intOf v21).toNat)
  case atStart => exact ⟨rfl, Lib.hid ⟨(RA3.out.mono (by omega)), CS3.out⟩⟩
  case round =>
    obtain ⟨rfl, hq0⟩ := hrel
    have hq := hq0.out
    clear hq0
    have CSr := Lib.hid hq.2
    have hk1 := hq.1
    clear hq
    have hsr : bs ≤ wr.heap.size := CSr.out.lB
    obtain ⟨aO, cO, rfl⟩ := hk1.form
    obtain ⟨nO, hnO⟩ : ∃ z, (oA).length = z := ⟨_, rfl⟩
    rw [hnO] at hk1 ⊢
    have bO : nO ≤ 1024 := by rw [← hnO, ← HOA.out]; have := cR_len f ta vs (m + 1); have := HSZ.out; simp only [sizeL] at this; omega
    have HNO := Lib.hid hnO
    have UO := Lib.hid hk1.block
    have RO := Lib.hid hk1
    clear hnO hk1
    clear e0 x0 x1 x2 x3 le lx k0
    have e0 : (wr).cell? ⟨be, 0, none⟩ = some (.slice (some ⟨b, off, none⟩) nl lc) := CSr.out.eb.cell rfl
    have x0 : (wr).cell? ⟨bx, 0, none⟩ = some (.int .i64 (13 : Int)) := CSr.out.xb.cell rfl
    have x1 : (wr).cell? ⟨bx, 1, none⟩ = some (.string (txt s)) := CSr.out.xb.cell rfl
    have x2 : (wr).cell? ⟨bx, 2, none⟩ = some (.int .i64 n) := CSr.out.xb.cell rfl
    have x3 : (wr).cell? ⟨bx, 3, none⟩ = some (.slice (some ⟨kb, ko, none⟩) 1 kc) := CSr.out.xb.cell rfl
    have le : be < (wr).heap.size := Nat.lt_of_lt_of_le CSr.out.le CSr.out.lB
    have lx : bx < (wr).heap.size := Nat.lt_of_lt_of_le CSr.out.lx CSr.out.lB
    have k0 : (wr).cell? ⟨kb, ko, none⟩ = some (.int .i64 (qta : Int)) := rkid_cell (j := 0) HKV.out Eta.out (HH.out.hw.trans (CSr.out.bel.mono HH.out.hw.size))
    have tokW : True := trivial
    have tokI : True := trivial
    go_upto_region 49 with (first
      | (have _t := tokW; go_at_call 56; go_must (refine (WK.out _).mono ?_); clear tokW _t
         rintro e w' ⟨rfl, nq, rfl⟩
         go_must (have CS4 := Lib.hid (CSr.out.drewN nq))
         go_must (have RO4 := Lib.hid (RO.out.drewN nq))
         go_must (have hswrq : wr.heap.size ≤ (wr.drewN nq).heap.size := Nat.le_refl _)
         clear e0 x0 x1 x2 x3 le lx k0
         go_must (have e0 : ((wr.drewN nq)).cell? ⟨be, 0, none⟩ = some (.slice (some ⟨b, off, none⟩) nl lc) := CS4.out.eb.cell rfl)
         go_must (have x0 : ((wr.drewN nq)).cell? ⟨bx, 0, none⟩ = some (.int .i64 (13 : Int)) := CS4.out.xb.cell rfl)
         go_must (have x1 : ((wr.drewN nq)).cell? ⟨bx, 1, none⟩ = some (.string (txt s)) := CS4.out.xb.cell rfl)
         go_must (have x2 : ((wr.drewN nq)).cell? ⟨bx, 2, none⟩ = some (.int .i64 n) := CS4.out.xb.cell rfl)
         go_must (have x3 : ((wr.drewN nq)).cell? ⟨bx, 3, none⟩ = some (.slice (some ⟨kb, ko, none⟩) 1 kc) := CS4.out.xb.cell rfl)
         go_must (have le : be < ((wr.drewN nq)).heap.size := Nat.lt_of_lt_of_le CS4.out.le CS4.out.lB)
         go_must (have lx : bx < ((wr.drewN nq)).heap.size := Nat.lt_of_lt_of_le CS4.out.lx CS4.out.lB)
         go_must (have k0 : ((wr.drewN nq)).cell? ⟨kb, ko, none⟩ = some (.int .i64 (qta : Int)) := rkid_cell (j := 0) HKV.out Eta.out (HH.out.hw.trans (CS4.out.bel.mono HH.out.hw.size))))
      | (have _t := tokI; go_at_call 55; go_must (refine (IK.out _).mono ?_); clear tokI _t
         rintro e w8 ⟨rfl, hb⟩
         go_must (have CS5 := Lib.hid (CS4.out.call hb))
         go_must (have RO5 := Lib.hid (RO4.out.below hb (Nat.le_refl _)))
         go_must (have hsw8 := hb.size)
         clear hb
         clear e0 x0 x1 x2 x3 le lx k0
         go_must (have e0 : (w8).cell? ⟨be, 0, none⟩ = some (.slice (some ⟨b, off, none⟩) nl lc) := CS5.out.eb.cell rfl)
         go_must (have x0 : (w8).cell? ⟨bx, 0, none⟩ = some (.int .i64 (13 : Int)) := CS5.out.xb.cell rfl)
         go_must (have x1 : (w8).cell? ⟨bx, 1, none⟩ = some (.string (txt s)) := CS5.out.xb.cell rfl)
         go_must (have x2 : (w8).cell? ⟨bx, 2, none⟩ = some (.int .i64 n) := CS5.out.xb.cell rfl)
         go_must (have x3 : (w8).cell? ⟨bx, 3, none⟩ = some (.slice (some ⟨kb, ko, none⟩) 1 kc) := CS5.out.xb.cell rfl)
         go_must (have le : be < (w8).heap.size := Nat.lt_of_lt_of_le CS5.out.le CS5.out.lB)
         go_must (have lx : bx < (w8).heap.size := Nat.lt_of_lt_of_le CS5.out.lx CS5.out.lB)
         go_must (have k0 : (w8).cell? ⟨kb, ko, none⟩ = some (.int .i64 (qta : Int)) := rkid_cell (j := 0) HKV.out Eta.out (HH.out.hw.trans (CS5.out.bel.mono HH.out.hw.size))))
      | fail)
    have CS6 := Lib.hid (CS5.out.alloc (.cells #[.int .i64 op0, .int .i64 0, .int .i64 0, .string ⟨#[]⟩] 46))
    have RO6 := Lib.hid (RO5.out.alloc (.cells #[.int .i64 op0, .int .i64 0, .int .i64 0, .string ⟨#[]⟩] 46))
    have By := Lib.hid (Blk.new w8 46 #[.int .i64 op0, .int .i64 0, .int .i64 0, .string ⟨#[]⟩])
    have hsW9 : w8.heap.size < (w8.alloc (.cells #[.int .i64 op0, .int .i64 0, .int .i64 0, .string ⟨#[]⟩] 46)).heap.size := by simp
    generalize w8.alloc (.cells #[.int .i64 op0, .int .i64 0, .int .i64 0, .string ⟨#[]⟩] 46) = W9 at *
    clear e0 x0 x1 x2 x3 le lx k0
    have e0 : (W9).cell? ⟨be, 0, none⟩ = some (.slice (some ⟨b, off, none⟩) nl lc) := CS6.out.eb.cell rfl
    have x0 : (W9).cell? ⟨bx, 0, none⟩ = some (.int .i64 (13 : Int)) := CS6.out.xb.cell rfl
    have x1 : (W9).cell? ⟨bx, 1, none⟩ = some (.string (txt s)) := CS6.out.xb.cell rfl
    have x2 : (W9).cell? ⟨bx, 2, none⟩ = some (.int .i64 n) := CS6.out.xb.cell rfl
    have x3 : (W9).cell? ⟨bx, 3, none⟩ = some (.slice (some ⟨kb, ko, none⟩) 1 kc) := CS6.out.xb.cell rfl
    have le : be < (W9).heap.size := Nat.lt_of_lt_of_le CS6.out.le CS6.out.lB
    have lx : bx < (W9).heap.size := Nat.lt_of_lt_of_le CS6.out.lx CS6.out.lB
    have k0 : (W9).cell? ⟨kb, ko, none⟩ = some (.int .i64 (qta : Int)) := rkid_cell (j := 0) HKV.out Eta.out (HH.out.hw.trans (CS6.out.bel.mono HH.out.hw.size))
    have y0 : (W9).cell? ⟨w8.heap.size, 0, none⟩ = some (.int .i64 op0) := By.out.cell rfl
    have y1 : (W9).cell? ⟨w8.heap.size, 1, none⟩ = some (.int .i64 0) := By.out.cell rfl
    have y2 : (W9).cell? ⟨w8.heap.size, 2, none⟩ = some (.int .i64 0) := By.out.cell rfl
    have y3 : (W9).cell? ⟨w8.heap.size, 3, none⟩ = some (.string ⟨#[]⟩) := By.out.cell rfl
    have ly : w8.heap.size < (W9).heap.size := By.out.lt
    have yf0 : (W9).frozen? ⟨w8.heap.size, 0, none⟩ = false := By.out.frozen 0
    have yf1 : (W9).frozen? ⟨w8.heap.size, 1, none⟩ = false := By.out.frozen 1
    have yf2 : (W9).frozen? ⟨w8.heap.size, 2, none⟩ = false := By.out.frozen 2
    have yf3 : (W9).frozen? ⟨w8.heap.size, 3, none⟩ = false := By.out.frozen 3
    go_upto_region 51 with fail
    generalize hW10 : World.setCell _ _ _ = W10
    have CS7 : Hid (CSt W W10 (.slice (some ⟨b, off, none⟩) nl lc) be bx #[.int .i64 (13 : Int), .string (txt s), .int .i64 n, .slice (some ⟨kb, ko, none⟩) 1 kc] bs) := Lib.hid (by rw [← hW10]; exact (CS6.out.set_ (g := w8.heap.size) (by omega) _ _))
    have RO7 : Hid (Own1 W10 bs 46 4 Ins.Is (.slice aO nO cO) oA) := Lib.hid (by rw [← hW10]; exact (RO6.out.setOther (p := ⟨w8.heap.size, 3, none⟩) (fun e => by have := UO.out (w8.heap.size) e; omega) _))
    have By7 : Hid (Blk W10 w8.heap.size 46 #[.int .i64 op0, .int .i64 0, .int .i64 0, .string (txt s)]) := Lib.hid (by rw [← hW10]; have := (By.out.set_ 3 (.string (txt s))); simpa using this)
    have hsW10 : W9.heap.size ≤ W10.heap.size := by rw [← hW10]; simp
    clear hW10
    clear e0 x0 x1 x2 x3 le lx k0 y0 y1 y2 y3 ly yf0 yf1 yf2 yf3
    have e0 : (W10).cell? ⟨be, 0, none⟩ = some (.slice (some ⟨b, off, none⟩) nl lc) := CS7.out.eb.cell rfl
    have x0 : (W10).cell? ⟨bx, 0, none⟩ = some (.int .i64 (13 : Int)) := CS7.out.xb.cell rfl
    have x1 : (W10).cell? ⟨bx, 1, none⟩ = some (.string (txt s)) := CS7.out.xb.cell rfl
    have x2 : (W10).cell? ⟨bx, 2, none⟩ = some (.int .i64 n) := CS7.out.xb.cell rfl
    have x3 : (W10).cell? ⟨bx, 3, none⟩ = some (.slice (some ⟨kb, ko, none⟩) 1 kc) := CS7.out.xb.cell rfl
    have le : be < (W10).heap.size := Nat.lt_of_lt_of_le CS7.out.le CS7.out.lB
    have lx : bx < (W10).heap.size := Nat.lt_of_lt_of_le CS7.out.lx CS7.out.lB
    have k0 : (W10).cell? ⟨kb, ko, none⟩ = some (.int .i64 (qta : Int)) := rkid_cell (j := 0) HKV.out Eta.out (HH.out.hw.trans (CS7.out.bel.mono HH.out.hw.size))
    have y0 : (W10).cell? ⟨w8.heap.size, 0, none⟩ = some (.int .i64 op0) := By7.out.cell rfl
    have y1 : (W10).cell? ⟨w8.heap.size, 1, none⟩ = some (.int .i64 0) := By7.out.cell rfl
    have y2 : (W10).cell? ⟨w8.heap.size, 2, none⟩ = some (.int .i64 0) := By7.out.cell rfl
    have y3 : (W10).cell? ⟨w8.heap.size, 3, none⟩ = some (.string (txt s)) := By7.out.cell rfl
    have ly : w8.heap.size < (W10).heap.size := By7.out.lt
    have yf0 : (W10).frozen? ⟨w8.heap.size, 0, none⟩ = false := By7.out.frozen 0
    have yf1 : (W10).frozen? ⟨w8.heap.size, 1, none⟩ = false := By7.out.frozen 1
    have yf2 : (W10).frozen? ⟨w8.heap.size, 2, none⟩ = false := By7.out.frozen 2
    have yf3 : (W10).frozen? ⟨w8.heap.size, 3, none⟩ = false := By7.out.frozen 3
    have tokP : True := trivial
    go_wp2_with (first
      | (have _t := tokP
         at_builtin
         go_must (refine wpList_append_list rfl (.tmp 243) (.tmp 245) _ (by rfl) bs (W10.heap.size + 1) 46 jI _ 4 40 Tryd.underlying22 I.out.1 I.out.2.1 I.out.2.2.1 I.out.2.2.2 rfl (by omega) (R := Ins.Is) (l := oA) (m := [⟨op0, 0, 0, txt s⟩]) (.slice aO nO cO) (by rfl) (by exact (RO7.out.alloc (.cells #[.int .i64 op0, .int .i64 0, .int .i64 0, .string (txt s)] 46))) (some ⟨W10.heap.size, 0, none⟩) 1 1 (by rfl) (SlR.new1 (w := W10) (e := 46) (g := W10.heap.size) rfl (x := [.int .i64 op0, .int .i64 0, .int .i64 0, .string (txt s)]) rfl (R := Ins.Is) (y := ⟨op0, 0, 0, txt s⟩) ⟨rfl, ins_ok hsm1 hsm2 (by omega) (by omega) (by omega) (by omega) (by rw [txt_size]; have := shape_len HND.out.1; unfold maxLen; omega)⟩) (nO + 1) (by rw [HNO.out]) Ins.Is.one (by have := HNO.out; unfold maxLen; simp <;> omega) (by have := HNO.out; simp <;> omega) (by simp <;> omega) ?_)
         clear tokP _t
         intro aO' cO' w11 hown hgr
         go_must (have CS8 := Lib.hid ((CS7.out.alloc (.cells #[.int .i64 op0, .int .i64 0, .int .i64 0, .string (txt s)] 46)).grown ((RO7.out.alloc (.cells #[.int .i64 op0, .int .i64 0, .int .i64 0, .string (txt s)] 46)).mono (by have := CS7.out.lB; omega)) hgr))
         go_must (have RO8 := Lib.hid hown)
         go_must (have hsw11 : W10.heap.size < w11.heap.size := by have := hgr.size; simp at this; omega)
         clear hown hgr
         clear e0 x0 x1 x2 x3 le lx k0 y0 y1 y2 y3 ly yf0 yf1 yf2 yf3
         go_must (have e0 : (w11).cell? ⟨be, 0, none⟩ = some (.slice (some ⟨b, off, none⟩) nl lc) := CS8.out.eb.cell rfl)
         go_must (have x0 : (w11).cell? ⟨bx, 0, none⟩ = some (.int .i64 (13 : Int)) := CS8.out.xb.cell rfl)
         go_must (have x1 : (w11).cell? ⟨bx, 1, none⟩ = some (.string (txt s)) := CS8.out.xb.cell rfl)
         go_must (have x2 : (w11).cell? ⟨bx, 2, none⟩ = some (.int .i64 n) := CS8.out.xb.cell rfl)
         go_must (have x3 : (w11).cell? ⟨bx, 3, none⟩ = some (.slice (some ⟨kb, ko, none⟩) 1 kc) := CS8.out.xb.cell rfl)
         go_must (have le : be < (w11).heap.size := Nat.lt_of_lt_of_le CS8.out.le CS8.out.lB)
         go_must (have lx : bx < (w11).heap.size := Nat.lt_of_lt_of_le CS8.out.lx CS8.out.lB)
         go_must (have k0 : (w11).cell? ⟨kb, ko, none⟩ = some (.int .i64 (qta : Int)) := rkid_cell (j := 0) HKV.out Eta.out (HH.out.hw.trans (CS8.out.bel.mono HH.out.hw.size))))
      | fail)
    go_ret
    rw [HCR.out]
    exact rcodeK_of (RO8.out.mono (by omega)) CS8.out.bel
end Go.Proofs.YtdkoafmgenbkbaaDoor
