/- Taken over out of another chapter (its text CrF): what is needed here. -/
import Derived.Test.YtdkoafmgenbkbaaDoorProg
import Derived.Test.YtdkoafmgenbkbaaDoorShelf
import Derived.Test.YtdkoafmgenbkbaaDoorCards
import Derived.Test.YtdkoafmgenbkbaaDoorTie
import Derived.Test.YtdkoafmgenbkbaaDoorKM1
import Derived.Test.YtdkoafmgenbkbaaDoorKM4
import Derived.Test.YtdkoafmgenbkbaaDoorKM2
import Derived.Test.YtdkoafmgenbkbaaDoorKM3
import Derived.Test.YtdkoafmgenbkbaaDoorKCpR
import Derived.Test.YtdkoafmgenbkbaaDoorKM5
import Derived.Below
import Derived.BigQuiet
import Derived.BigRegion
import Derived.Deep.AppendLies
import Derived.Deep.CutBlock
import Derived.Deep.CutRange
import Derived.Deep.Draws
import Derived.Deep.Fields
import Derived.Deep.LoopGhost
import Derived.Deep.QuietTactic
import Derived.Deep.RegionHeld2
import Derived.Deep.RegionHeld3
import Derived.Deep.RegionLaw
import Derived.Deep.Slices
import Derived.Defers
import Derived.IntWalk
import Derived.Laws.BytesString
import Derived.Laws.Cover1
import Derived.Laws.EntriesVeiled
import Derived.Laws.IdiomStrings
import Derived.Laws.MakeOwn
import Derived.Laws.Pointers
import Derived.Laws.Rows
import Derived.Lib.AppendStr
import Derived.Lib.Builder
import Derived.Lib.CutLaws
import Derived.Lib.FrozenHead
import Derived.Lib.Hide
import Derived.Lib.ItoaNum
import Derived.Lib.ParseIntB
import Derived.Lib.SliceRun
import Derived.Lib.SlicesS
import Derived.Maps.AppendAt
import Derived.Orders
import Derived.Outline
import Derived.OwnWalk
import Derived.ProofKit
import Derived.Recover
import Derived.RegionTactic
import Derived.StillTailTactics
import Derived.Tactics
import Derived.Tactics2
import Derived.WalkKit
import Derived.WalkMore
import Derived.WalkSmall
import Derived.WalkSpells
namespace Go.Proofs.YtdkoafmgenbkbaaDoor
set_option linter.unusedSimpArgs false
set_option linter.unusedVariables false
open Go.RowKit
set_option maxRecDepth 100000 in
set_option maxHeartbeats 8000000 in
theorem rcode_loop31 {l : List ND} {lv : Value} {W0 : World} {f p : Nat} {s : List Nat} {n m : Int} {ta tb : Tr} {vs : List (List Nat)} {W : World} (H : RPre l lv W0 (f + 1) (.node 31 s n [ta, tb]) p vs m W) (ih : RCodeIs l lv W0 f) : Calls Tryd.prog 30 #[.agg #[lv], .int .i64 (p : Int), .int .i64 m] W (RCodeK W (cR (f + 1) (.node 31 s n [ta, tb]) vs m)) := by
  obtain ⟨hd, hks⟩ := stands_node H.st
  obtain ⟨la, lc, rfl, _, _⟩ := H.hs.form
  have hpl := (List.getElem?_eq_some_iff.1 hd).1
  obtain ⟨nl, hnl⟩ : ∃ z, l.length = z := ⟨_, rfl⟩
  rw [hnl] at H hpl ⊢
  try rw [hnl] at ih
  have hB6 := H.hw.alloc H.hw.size (.cells #[.slice la nl lc] 38)
  have hhs := H.hs
  obtain ⟨b, off, x, rfl, hbB, hxl, ⟨kv, rfl, hkv⟩, hx⟩ := (hhs.below hB6).at_ hd
  obtain ⟨ka, kc, rfl, _, _⟩ := hkv.form
  simp only [List.length_map, places_len] at hkv hx
  simp only [List.length_cons, List.length_nil, Nat.zero_add, Nat.reduceAdd] at hkv hx
  have x0 := hx 0 _ rfl
  have x1 := hx 1 _ rfl
  have x2 := hx 2 _ rfl
  have x3 := hx 3 _ rfl
  simp only [Nat.add_zero] at x0
  have p0 : (0 : Int) ≤ (p : Int) := Int.natCast_nonneg _
  have p1 : (p : Int) < (nl : Int) := by omega
  have HH := Lib.hid H
  have HNL := Lib.hid hnl
  have HKV := Lib.hid hkv
  have m1 := H.m1
  have m2 : m ≤ 1000 := by have := H.mf; omega
  obtain ⟨jI, hi, hz, hsz, hby⟩ := info_parts info_Ins
  have I := Lib.hid (And.intro hi (And.intro hz (And.intro hsz hby)))
  clear hi hz hsz hby H hd hkv hx hxl hks hnl hhs hB6
  go_enter Tryd.func30, Tryd.ntmps30
  go_upto_region 1 with fail
  have e0 : (W.alloc (.cells #[(.slice (some ⟨b, off, none⟩) nl lc)] 38)).cell? ⟨W.heap.size, 0, none⟩ = some (.slice (some ⟨b, off, none⟩) nl lc) := (Blk.new W 38 #[(.slice (some ⟨b, off, none⟩) nl lc)]).cell rfl
  have lw0 : W.heap.size < (W.alloc (.cells #[(.slice (some ⟨b, off, none⟩) nl lc)] 38)).heap.size := (Blk.new W 38 #[(.slice (some ⟨b, off, none⟩) nl lc)]).lt
  generalize hW1 : W.alloc (.cells #[(.slice (some ⟨b, off, none⟩) nl lc)] 38) = W1 at *
  have HW1 := Lib.hid hW1
  clear hW1
  go_upto_region 4 with (first
    | (go_at_call 55; go_must (refine (rins_step _).mono ?_); rintro e w2 ⟨rfl, hb⟩; go_must (have HB := Lib.hid (CSt.make HW1.out.symm hb)); clear hb)
    | fail)
  clear x0 x1 x2 x3 e0 lw0
  have CS := Lib.hid (HB.out.alloc (.cells #[.int .i64 1, .int .i64 m, .int .i64 0, .string ⟨#[]⟩] 46))
  have SK := Lib.hid (Blk.new w2 46 #[.int .i64 1, .int .i64 m, .int .i64 0, .string ⟨#[]⟩])
  generalize hW3 : w2.alloc (.cells #[.int .i64 1, .int .i64 m, .int .i64 0, .string ⟨#[]⟩] 46) = W3 at *
  obtain ⟨be, hbe⟩ : ∃ z, W.heap.size = z := ⟨_, rfl⟩
  obtain ⟨bx, hbx⟩ : ∃ z, W1.heap.size = z := ⟨_, rfl⟩
  obtain ⟨bs, hbs⟩ : ∃ z, w2.heap.size = z := ⟨_, rfl⟩
  rw [hbe] at CS
  rw [hbx, hbs] at CS
  rw [hbs] at SK
  first | rw [hbe, hbx, hbs] | rw [hbx, hbe, hbs]
  clear HB hW3 hbx hbs HW1
  have e0 : (W3).cell? ⟨be, 0, none⟩ = some (.slice (some ⟨b, off, none⟩) nl lc) := CS.out.eb.cell rfl
  have x0 : (W3).cell? ⟨bx, 0, none⟩ = some (.int .i64 (31 : Int)) := CS.out.xb.cell rfl
  have x1 : (W3).cell? ⟨bx, 1, none⟩ = some (.string (txt s)) := CS.out.xb.cell rfl
  have x2 : (W3).cell? ⟨bx, 2, none⟩ = some (.int .i64 n) := CS.out.xb.cell rfl
  have x3 : (W3).cell? ⟨bx, 3, none⟩ = some (.slice ka 2 kc) := CS.out.xb.cell rfl
  have le : be < (W3).heap.size := Nat.lt_of_lt_of_le CS.out.le CS.out.lB
  have lx : bx < (W3).heap.size := Nat.lt_of_lt_of_le CS.out.lx CS.out.lB
  have HSZ : Hid (1 + sizeL [ta, tb] ≤ 256) := Lib.hid (by have h1 := stands_size HH.out.st; have h2 := HH.out.hl; have := HNL.out; simp only [Tr.size] at h1; omega)
  obtain ⟨qta, sta, uta, eta⟩ := rkid HH.out.st HH.out.un (j := 0) (a := ta) rfl
  rw [if_neg (by omega)] at uta
  have Sta := Lib.hid sta
  have Vta := Lib.hid uta
  have Eta := Lib.hid eta
  clear sta uta eta
  obtain ⟨qtb, stb, utb, etb⟩ := rkid HH.out.st HH.out.un (j := 1) (a := tb) rfl
  rw [if_pos (by omega)] at utb
  have Stb := Lib.hid stb
  have Vtb := Lib.hid utb
  have Etb := Lib.hid etb
  clear stb utb etb
  obtain ⟨kb, ko, rfl⟩ := kid_form HKV.out (stands_node HH.out.st).2 (j := 0) (t := ta) rfl
  have wr1 : IntKind.i64.wrap (m + 1) = m + 1 := by rw [IntKind.wrap_i64]; omega
  have hs0 : bs ≤ W3.heap.size := CS.out.lB
  have hwl : W.heap.size ≤ bs := CS.out.wl
  obtain ⟨oA, hoA⟩ : ∃ z, cR f ta vs (m + 1) = z := ⟨_, rfl⟩
  have HOA := Lib.hid hoA
  have OPSA : Hid (∀ y ∈ oA, (1 ≤ y.op ∧ y.op ≤ 40) ∧ -1000000 ≤ y.arg ∧ y.arg ≤ 1000000) := Lib.hid (by rw [← hoA]; exact rcode_ops HH.out (j := 0) rfl (by simp) (by omega) (by omega))
  clear hoA
  obtain ⟨oB, hoB⟩ : ∃ z, cR f tb (vs ++ [s]) (1) = z := ⟨_, rfl⟩
  have HOB := Lib.hid hoB
  have OPSB : Hid (∀ y ∈ oB, (1 ≤ y.op ∧ y.op ≤ 40) ∧ -1000000 ≤ y.arg ∧ y.arg ≤ 1000000) := Lib.hid (by rw [← hoB]; exact rcode_ops HH.out (j := 1) rfl (by simp) (by omega) (by omega))
  clear hoB
  have hcr : cR (f + 1) (.node 31 s n [ta, tb]) vs m = thenN (oA ++ [insI 35 0, insI 39 ((oA.length : Int) + 2 + (oB.length : Int) + 1)]) oB ++ [insI 40 ((oA.length : Int) + 1)] := by rw [← HOA.out, ← HOB.out]; simp only [cR]; rw [if_neg (by decide), if_pos (by decide)]; rfl
  have HCR := Lib.hid hcr
  clear hcr
  have LK : Hid (∀ w, Calls Tryd.prog 59 #[.int .i64 31] w fun e w' => e = .returned (.bool true) ∧ Quiet w w') := Lib.hid (fun w => rloop_any 31 w)
  have WK : Hid (∀ w, Calls Tryd.prog 56 #[.int .i64 31] w fun e w' => e = .returned (.string (wordK 31)) ∧ Quiet w w') := Lib.hid (fun w => rkind_any 31 (by omega) w)
  have hop : opR (wordK 31) = 35 := opR_wordK (by omega)
  obtain ⟨wk, hwk⟩ : ∃ z, wordK 31 = z := ⟨_, rfl⟩
  rw [hwk] at WK hop
  have IK := Lib.hid (rins_any wk)
  rw [hop] at IK
  clear hwk hop
  clear e0 x0 x1 x2 x3 le lx
  have e0 : (W3).cell? ⟨be, 0, none⟩ = some (.slice (some ⟨b, off, none⟩) nl lc) := CS.out.eb.cell rfl
  have x0 : (W3).cell? ⟨bx, 0, none⟩ = some (.int .i64 (31 : Int)) := CS.out.xb.cell rfl
  have x1 : (W3).cell? ⟨bx, 1, none⟩ = some (.string (txt s)) := CS.out.xb.cell rfl
  have x2 : (W3).cell? ⟨bx, 2, none⟩ = some (.int .i64 n) := CS.out.xb.cell rfl
  have x3 : (W3).cell? ⟨bx, 3, none⟩ = some (.slice (some ⟨kb, ko, none⟩) 2 kc) := CS.out.xb.cell rfl
  have le : be < (W3).heap.size := Nat.lt_of_lt_of_le CS.out.le CS.out.lB
  have lx : bx < (W3).heap.size := Nat.lt_of_lt_of_le CS.out.lx CS.out.lB
  have k0 : (W3).cell? ⟨kb, ko, none⟩ = some (.int .i64 (qta : Int)) := rkid_cell (j := 0) HKV.out Eta.out (HH.out.hw.trans (CS.out.bel.mono HH.out.hw.size))
  have k1 : (W3).cell? ⟨kb, ko + 1, none⟩ = some (.int .i64 (qtb : Int)) := rkid_cell (j := 1) HKV.out Etb.out (HH.out.hw.trans (CS.out.bel.mono HH.out.hw.size))
  go_upto_region 20 with fail
  go_still_tail 7, (by kernel_rfl)
  change wpList _ _ _ _ _ W3.drew
  have CS1 := Lib.hid (CS.out.drew)
  have hsW4 : W3.heap.size ≤ W3.drew.heap.size := Nat.le_refl _
  generalize W3.drew = W4 at *
  clear e0 x0 x1 x2 x3 le lx k0 k1
  have e0 : (W4).cell? ⟨be, 0, none⟩ = some (.slice (some ⟨b, off, none⟩) nl lc) := CS1.out.eb.cell rfl
  have x0 : (W4).cell? ⟨bx, 0, none⟩ = some (.int .i64 (31 : Int)) := CS1.out.xb.cell rfl
  have x1 : (W4).cell? ⟨bx, 1, none⟩ = some (.string (txt s)) := CS1.out.xb.cell rfl
  have x2 : (W4).cell? ⟨bx, 2, none⟩ = some (.int .i64 n) := CS1.out.xb.cell rfl
  have x3 : (W4).cell? ⟨bx, 3, none⟩ = some (.slice (some ⟨kb, ko, none⟩) 2 kc) := CS1.out.xb.cell rfl
  have le : be < (W4).heap.size := Nat.lt_of_lt_of_le CS1.out.le CS1.out.lB
  have lx : bx < (W4).heap.size := Nat.lt_of_lt_of_le CS1.out.lx CS1.out.lB
  have k0 : (W4).cell? ⟨kb, ko, none⟩ = some (.int .i64 (qta : Int)) := rkid_cell (j := 0) HKV.out Eta.out (HH.out.hw.trans (CS1.out.bel.mono HH.out.hw.size))
  have k1 : (W4).cell? ⟨kb, ko + 1, none⟩ = some (.int .i64 (qtb : Int)) := rkid_cell (j := 1) HKV.out Etb.out (HH.out.hw.trans (CS1.out.bel.mono HH.out.hw.size))
  have tokA : True := trivial
  have tokL : True := trivial
  go_upto_region 38 with (first
    | (have _t := tokA; go_at_call 30; go_must (refine (ih ta qta vs (m + 1) _ (RPre.kid (j := 0) HH.out rfl Sta.out Vta.out (by simp) (by omega) (by omega) CS1.out.bel)).mono ?_); clear tokA _t
       rintro e w5 ⟨ov, rfl, hk1, hk2⟩
       go_must (have CS2 := Lib.hid (CS1.out.call hk2))
       rw [HOA.out] at hk1
       go_must (have hsw5 := hk2.size)
       obtain ⟨aA, cA, rfl⟩ := hk1.form
       obtain ⟨nA, hnA⟩ : ∃ z, (oA).length = z := ⟨_, rfl⟩
       rw [hnA] at hk1 ⊢
       go_must (have bA : nA ≤ 1024 := by rw [← hnA, ← HOA.out]; have := cR_len f ta vs (m + 1); have := HSZ.out; simp only [sizeL] at this; omega)
       go_must (have HNA := Lib.hid hnA)
       go_must (have UA := Lib.hid hk1.block)
       go_must (have RA := Lib.hid hk1)
       clear hnA hk1
       clear hk2
       clear e0 x0 x1 x2 x3 le lx k0 k1
       go_must (have e0 : (w5).cell? ⟨be, 0, none⟩ = some (.slice (some ⟨b, off, none⟩) nl lc) := CS2.out.eb.cell rfl)
       go_must (have x0 : (w5).cell? ⟨bx, 0, none⟩ = some (.int .i64 (31 : Int)) := CS2.out.xb.cell rfl)
       go_must (have x1 : (w5).cell? ⟨bx, 1, none⟩ = some (.string (txt s)) := CS2.out.xb.cell rfl)
       go_must (have x2 : (w5).cell? ⟨bx, 2, none⟩ = some (.int .i64 n) := CS2.out.xb.cell rfl)
       go_must (have x3 : (w5).cell? ⟨bx, 3, none⟩ = some (.slice (some ⟨kb, ko, none⟩) 2 kc) := CS2.out.xb.cell rfl)
       go_must (have le : be < (w5).heap.size := Nat.lt_of_lt_of_le CS2.out.le CS2.out.lB)
       go_must (have lx : bx < (w5).heap.size := Nat.lt_of_lt_of_le CS2.out.lx CS2.out.lB)
       go_must (have k0 : (w5).cell? ⟨kb, ko, none⟩ = some (.int .i64 (qta : Int)) := rkid_cell (j := 0) HKV.out Eta.out (HH.out.hw.trans (CS2.out.bel.mono HH.out.hw.size)))
       go_must (have k1 : (w5).cell? ⟨kb, ko + 1, none⟩ = some (.int .i64 (qtb : Int)) := rkid_cell (j := 1) HKV.out Etb.out (HH.out.hw.trans (CS2.out.bel.mono HH.out.hw.size))))
    | (have _t := tokL; go_at_call 59; go_must (refine (LK.out _).mono ?_); clear tokL _t
       rintro e w' ⟨rfl, nq, rfl⟩
       go_must (have CS3 := Lib.hid (CS2.out.drewN nq))
       go_must (have RA3 := Lib.hid (RA.out.drewN nq))
       go_must (have hsw5q : w5.heap.size ≤ (w5.drewN nq).heap.size := Nat.le_refl _)
       clear e0 x0 x1 x2 x3 le lx k0 k1
       go_must (have e0 : ((w5.drewN nq)).cell? ⟨be, 0, none⟩ = some (.slice (some ⟨b, off, none⟩) nl lc) := CS3.out.eb.cell rfl)
       go_must (have x0 : ((w5.drewN nq)).cell? ⟨bx, 0, none⟩ = some (.int .i64 (31 : Int)) := CS3.out.xb.cell rfl)
       go_must (have x1 : ((w5.drewN nq)).cell? ⟨bx, 1, none⟩ = some (.string (txt s)) := CS3.out.xb.cell rfl)
       go_must (have x2 : ((w5.drewN nq)).cell? ⟨bx, 2, none⟩ = some (.int .i64 n) := CS3.out.xb.cell rfl)
       go_must (have x3 : ((w5.drewN nq)).cell? ⟨bx, 3, none⟩ = some (.slice (some ⟨kb, ko, none⟩) 2 kc) := CS3.out.xb.cell rfl)
       go_must (have le : be < ((w5.drewN nq)).heap.size := Nat.lt_of_lt_of_le CS3.out.le CS3.out.lB)
       go_must (have lx : bx < ((w5.drewN nq)).heap.size := Nat.lt_of_lt_of_le CS3.out.lx CS3.out.lB)
       go_must (have k0 : ((w5.drewN nq)).cell? ⟨kb, ko, none⟩ = some (.int .i64 (qta : Int)) := rkid_cell (j := 0) HKV.out Eta.out (HH.out.hw.trans (CS3.out.bel.mono HH.out.hw.size)))
       go_must (have k1 : ((w5.drewN nq)).cell? ⟨kb, ko + 1, none⟩ = some (.int .i64 (qtb : Int)) := rkid_cell (j := 1) HKV.out Etb.out (HH.out.hw.trans (CS3.out.bel.mono HH.out.hw.size))))
    | fail)
  generalize (w5.drewN nq) = W6 at *
  have tokY : True := trivial
  have tokJ : True := trivial
  go_upto_region 39 with (first
    | (have _t := tokY; go_at_call 55; go_must (refine (rins_next _).mono ?_); clear tokY _t
       rintro e w7 ⟨rfl, hb⟩
       go_must (have CS4 := Lib.hid (CS3.out.call hb))
       go_must (have RA4 := Lib.hid (RA3.out.below hb (Nat.le_refl _)))
       go_must (have hsw7 := hb.size)
       clear hb
       clear e0 x0 x1 x2 x3 le lx k0 k1
       go_must (have e0 : (w7).cell? ⟨be, 0, none⟩ = some (.slice (some ⟨b, off, none⟩) nl lc) := CS4.out.eb.cell rfl)
       go_must (have x0 : (w7).cell? ⟨bx, 0, none⟩ = some (.int .i64 (31 : Int)) := CS4.out.xb.cell rfl)
       go_must (have x1 : (w7).cell? ⟨bx, 1, none⟩ = some (.string (txt s)) := CS4.out.xb.cell rfl)
       go_must (have x2 : (w7).cell? ⟨bx, 2, none⟩ = some (.int .i64 n) := CS4.out.xb.cell rfl)
       go_must (have x3 : (w7).cell? ⟨bx, 3, none⟩ = some (.slice (some ⟨kb, ko, none⟩) 2 kc) := CS4.out.xb.cell rfl)
       go_must (have le : be < (w7).heap.size := Nat.lt_of_lt_of_le CS4.out.le CS4.out.lB)
       go_must (have lx : bx < (w7).heap.size := Nat.lt_of_lt_of_le CS4.out.lx CS4.out.lB)
       go_must (have k0 : (w7).cell? ⟨kb, ko, none⟩ = some (.int .i64 (qta : Int)) := rkid_cell (j := 0) HKV.out Eta.out (HH.out.hw.trans (CS4.out.bel.mono HH.out.hw.size)))
       go_must (have k1 : (w7).cell? ⟨kb, ko + 1, none⟩ = some (.int .i64 (qtb : Int)) := rkid_cell (j := 1) HKV.out Etb.out (HH.out.hw.trans (CS4.out.bel.mono HH.out.hw.size))))
    | (have _t := tokJ; go_at_call 55; go_must (refine (rins_take _).mono ?_); clear tokJ _t
       rintro e w8 ⟨rfl, hb⟩
       go_must (have CS5 := Lib.hid (CS4.out.call hb))
       go_must (have RA5 := Lib.hid (RA4.out.below hb (Nat.le_refl _)))
       go_must (have hsw8 := hb.size)
       clear hb
       clear e0 x0 x1 x2 x3 le lx k0 k1
       go_must (have e0 : (w8).cell? ⟨be, 0, none⟩ = some (.slice (some ⟨b, off, none⟩) nl lc) := CS5.out.eb.cell rfl)
       go_must (have x0 : (w8).cell? ⟨bx, 0, none⟩ = some (.int .i64 (31 : Int)) := CS5.out.xb.cell rfl)
       go_must (have x1 : (w8).cell? ⟨bx, 1, none⟩ = some (.string (txt s)) := CS5.out.xb.cell rfl)
       go_must (have x2 : (w8).cell? ⟨bx, 2, none⟩ = some (.int .i64 n) := CS5.out.xb.cell rfl)
       go_must (have x3 : (w8).cell? ⟨bx, 3, none⟩ = some (.slice (some ⟨kb, ko, none⟩) 2 kc) := CS5.out.xb.cell rfl)
       go_must (have le : be < (w8).heap.size := Nat.lt_of_lt_of_le CS5.out.le CS5.out.lB)
       go_must (have lx : bx < (w8).heap.size := Nat.lt_of_lt_of_le CS5.out.lx CS5.out.lB)
       go_must (have k0 : (w8).cell? ⟨kb, ko, none⟩ = some (.int .i64 (qta : Int)) := rkid_cell (j := 0) HKV.out Eta.out (HH.out.hw.trans (CS5.out.bel.mono HH.out.hw.size)))
       go_must (have k1 : (w8).cell? ⟨kb, ko + 1, none⟩ = some (.int .i64 (qtb : Int)) := rkid_cell (j := 1) HKV.out Etb.out (HH.out.hw.trans (CS5.out.bel.mono HH.out.hw.size))))
    | fail)
  have CS6 := Lib.hid ((CS5.out.alloc (.cells #[.int .i64 39, .int .i64 0, .int .i64 0, .string ⟨#[]⟩] 46)).alloc (.cells #[.int .i64 40, .int .i64 0, .int .i64 0, .string ⟨#[]⟩] 46))
  have RA6 := Lib.hid ((RA5.out.alloc (.cells #[.int .i64 39, .int .i64 0, .int .i64 0, .string ⟨#[]⟩] 46)).alloc (.cells #[.int .i64 40, .int .i64 0, .int .i64 0, .string ⟨#[]⟩] 46))
  have By := Lib.hid ((Blk.new w8 46 #[.int .i64 39, .int .i64 0, .int .i64 0, .string ⟨#[]⟩]).alloc (.cells #[.int .i64 40, .int .i64 0, .int .i64 0, .string ⟨#[]⟩] 46))
  have Bt := Lib.hid (Blk.new_ (w := w8.alloc (.cells #[.int .i64 39, .int .i64 0, .int .i64 0, .string ⟨#[]⟩] 46)) (g := w8.heap.size + 1) (by simp) 46 #[.int .i64 40, .int .i64 0, .int .i64 0, .string ⟨#[]⟩])
  have hsW9 : w8.heap.size + 1 < ((w8.alloc (.cells #[.int .i64 39, .int .i64 0, .int .i64 0, .string ⟨#[]⟩] 46)).alloc (.cells #[.int .i64 40, .int .i64 0, .int .i64 0, .string ⟨#[]⟩] 46)).heap.size := by simp
  generalize (w8.alloc (.cells #[.int .i64 39, .int .i64 0, .int .i64 0, .string ⟨#[]⟩] 46)).alloc (.cells #[.int .i64 40, .int .i64 0, .int .i64 0, .string ⟨#[]⟩] 46) = W9 at *
  clear e0 x0 x1 x2 x3 le lx k0 k1
  have e0 : (W9).cell? ⟨be, 0, none⟩ = some (.slice (some ⟨b, off, none⟩) nl lc) := CS6.out.eb.cell rfl
  have x0 : (W9).cell? ⟨bx, 0, none⟩ = some (.int .i64 (31 : Int)) := CS6.out.xb.cell rfl
  have x1 : (W9).cell? ⟨bx, 1, none⟩ = some (.string (txt s)) := CS6.out.xb.cell rfl
  have x2 : (W9).cell? ⟨bx, 2, none⟩ = some (.int .i64 n) := CS6.out.xb.cell rfl
  have x3 : (W9).cell? ⟨bx, 3, none⟩ = some (.slice (some ⟨kb, ko, none⟩) 2 kc) := CS6.out.xb.cell rfl
  have le : be < (W9).heap.size := Nat.lt_of_lt_of_le CS6.out.le CS6.out.lB
  have lx : bx < (W9).heap.size := Nat.lt_of_lt_of_le CS6.out.lx CS6.out.lB
  have k0 : (W9).cell? ⟨kb, ko, none⟩ = some (.int .i64 (qta : Int)) := rkid_cell (j := 0) HKV.out Eta.out (HH.out.hw.trans (CS6.out.bel.mono HH.out.hw.size))
  have k1 : (W9).cell? ⟨kb, ko + 1, none⟩ = some (.int .i64 (qtb : Int)) := rkid_cell (j := 1) HKV.out Etb.out (HH.out.hw.trans (CS6.out.bel.mono HH.out.hw.size))
  have y0 : (W9).cell? ⟨w8.heap.size, 0, none⟩ = some (.int .i64 39) := By.out.cell rfl
  have y1 : (W9).cell? ⟨w8.heap.size, 1, none⟩ = some (.int .i64 0) := By.out.cell rfl
  have y2 : (W9).cell? ⟨w8.heap.size, 2, none⟩ = some (.int .i64 0) := By.out.cell rfl
  have y3 : (W9).cell? ⟨w8.heap.size, 3, none⟩ = some (.string ⟨#[]⟩) := By.out.cell rfl
  have ly : w8.heap.size < (W9).heap.size := By.out.lt
  have yf0 : (W9).frozen? ⟨w8.heap.size, 0, none⟩ = false := By.out.frozen 0
  have yf1 : (W9).frozen? ⟨w8.heap.size, 1, none⟩ = false := By.out.frozen 1
  have yf2 : (W9).frozen? ⟨w8.heap.size, 2, none⟩ = false := By.out.frozen 2
  have yf3 : (W9).frozen? ⟨w8.heap.size, 3, none⟩ = false := By.out.frozen 3
  have t0 : (W9).cell? ⟨(w8.heap.size + 1), 0, none⟩ = some (.int .i64 40) := Bt.out.cell rfl
  have t1 : (W9).cell? ⟨(w8.heap.size + 1), 1, none⟩ = some (.int .i64 0) := Bt.out.cell rfl
  have t2 : (W9).cell? ⟨(w8.heap.size + 1), 2, none⟩ = some (.int .i64 0) := Bt.out.cell rfl
  have t3 : (W9).cell? ⟨(w8.heap.size + 1), 3, none⟩ = some (.string ⟨#[]⟩) := Bt.out.cell rfl
  have lt : (w8.heap.size + 1) < (W9).heap.size := Bt.out.lt
  have tf0 : (W9).frozen? ⟨(w8.heap.size + 1), 0, none⟩ = false := Bt.out.frozen 0
  have tf1 : (W9).frozen? ⟨(w8.heap.size + 1), 1, none⟩ = false := Bt.out.frozen 1
  have tf2 : (W9).frozen? ⟨(w8.heap.size + 1), 2, none⟩ = false := Bt.out.frozen 2
  have tf3 : (W9).frozen? ⟨(w8.heap.size + 1), 3, none⟩ = false := Bt.out.frozen 3
  go_still_tail 5, (by kernel_rfl)
  change wpList _ _ _ _ _ W9.drew
  have CS7 := Lib.hid (CS6.out.drew)
  have RA7 := Lib.hid (RA6.out.drew)
  have By7 := Lib.hid (By.out.drwC)
  have Bt7 := Lib.hid (Bt.out.drwC)
  have hsW10 : W9.heap.size ≤ W9.drew.heap.size := Nat.le_refl _
  generalize W9.drew = W10 at *
  clear e0 x0 x1 x2 x3 le lx k0 k1 y0 y1 y2 y3 ly yf0 yf1 yf2 yf3 t0 t1 t2 t3 lt tf0 tf1 tf2 tf3
  have e0 : (W10).cell? ⟨be, 0, none⟩ = some (.slice (some ⟨b, off, none⟩) nl lc) := CS7.out.eb.cell rfl
  have x0 : (W10).cell? ⟨bx, 0, none⟩ = some (.int .i64 (31 : Int)) := CS7.out.xb.cell rfl
  have x1 : (W10).cell? ⟨bx, 1, none⟩ = some (.string (txt s)) := CS7.out.xb.cell rfl
  have x2 : (W10).cell? ⟨bx, 2, none⟩ = some (.int .i64 n) := CS7.out.xb.cell rfl
  have x3 : (W10).cell? ⟨bx, 3, none⟩ = some (.slice (some ⟨kb, ko, none⟩) 2 kc) := CS7.out.xb.cell rfl
  have le : be < (W10).heap.size := Nat.lt_of_lt_of_le CS7.out.le CS7.out.lB
  have lx : bx < (W10).heap.size := Nat.lt_of_lt_of_le CS7.out.lx CS7.out.lB
  have k0 : (W10).cell? ⟨kb, ko, none⟩ = some (.int .i64 (qta : Int)) := rkid_cell (j := 0) HKV.out Eta.out (HH.out.hw.trans (CS7.out.bel.mono HH.out.hw.size))
  have k1 : (W10).cell? ⟨kb, ko + 1, none⟩ = some (.int .i64 (qtb : Int)) := rkid_cell (j := 1) HKV.out Etb.out (HH.out.hw.trans (CS7.out.bel.mono HH.out.hw.size))
  have y0 : (W10).cell? ⟨w8.heap.size, 0, none⟩ = some (.int .i64 39) := By7.out.cell rfl
  have y1 : (W10).cell? ⟨w8.heap.size, 1, none⟩ = some (.int .i64 0) := By7.out.cell rfl
  have y2 : (W10).cell? ⟨w8.heap.size, 2, none⟩ = some (.int .i64 0) := By7.out.cell rfl
  have y3 : (W10).cell? ⟨w8.heap.size, 3, none⟩ = some (.string ⟨#[]⟩) := By7.out.cell rfl
  have ly : w8.heap.size < (W10).heap.size := By7.out.lt
  have yf0 : (W10).frozen? ⟨w8.heap.size, 0, none⟩ = false := By7.out.frozen 0
  have yf1 : (W10).frozen? ⟨w8.heap.size, 1, none⟩ = false := By7.out.frozen 1
  have yf2 : (W10).frozen? ⟨w8.heap.size, 2, none⟩ = false := By7.out.frozen 2
  have yf3 : (W10).frozen? ⟨w8.heap.size, 3, none⟩ = false := By7.out.frozen 3
  have t0 : (W10).cell? ⟨(w8.heap.size + 1), 0, none⟩ = some (.int .i64 40) := Bt7.out.cell rfl
  have t1 : (W10).cell? ⟨(w8.heap.size + 1), 1, none⟩ = some (.int .i64 0) := Bt7.out.cell rfl
  have t2 : (W10).cell? ⟨(w8.heap.size + 1), 2, none⟩ = some (.int .i64 0) := Bt7.out.cell rfl
  have t3 : (W10).cell? ⟨(w8.heap.size + 1), 3, none⟩ = some (.string ⟨#[]⟩) := Bt7.out.cell rfl
  have lt : (w8.heap.size + 1) < (W10).heap.size := Bt7.out.lt
  have tf0 : (W10).frozen? ⟨(w8.heap.size + 1), 0, none⟩ = false := Bt7.out.frozen 0
  have tf1 : (W10).frozen? ⟨(w8.heap.size + 1), 1, none⟩ = false := Bt7.out.frozen 1
  have tf2 : (W10).frozen? ⟨(w8.heap.size + 1), 2, none⟩ = false := Bt7.out.frozen 2
  have tf3 : (W10).frozen? ⟨(w8.heap.size + 1), 3, none⟩ = false := Bt7.out.frozen 3
  have tokB : True := trivial
  go_upto_region 40 with (first
    | (have _t := tokB; go_at_call 30; go_must (refine (ih tb qtb (vs ++ [s]) (1) _ (RPre.kid (j := 1) HH.out rfl Stb.out Vtb.out (by simp) (by omega) (by omega) CS7.out.bel)).mono ?_); clear tokB _t
       rintro e w11 ⟨ov, rfl, hk1, hk2⟩
       go_must (have CS8 := Lib.hid (CS7.out.call hk2))
       rw [HOB.out] at hk1
       go_must (have RA8 := Lib.hid (RA7.out.below hk2 (Nat.le_refl _)))
       go_must (have By8 := Lib.hid (By7.out.below hk2 By7.out.lt))
       go_must (have Bt8 := Lib.hid (Bt7.out.below hk2 Bt7.out.lt))
       go_must (have hsw11 := hk2.size)
       obtain ⟨aB, cB, rfl⟩ := hk1.form
       obtain ⟨nB, hnB⟩ : ∃ z, (oB).length = z := ⟨_, rfl⟩
       rw [hnB] at hk1 ⊢
       go_must (have bB : nB ≤ 1024 := by rw [← hnB, ← HOB.out]; have := cR_len f tb (vs ++ [s]) (1); have := HSZ.out; simp only [sizeL] at this; omega)
       go_must (have HNB := Lib.hid hnB)
       go_must (have UB := Lib.hid hk1.block)
       go_must (have RB := Lib.hid hk1)
       clear hnB hk1
       clear hk2
       clear e0 x0 x1 x2 x3 le lx k0 k1 y0 y1 y2 y3 ly yf0 yf1 yf2 yf3 t0 t1 t2 t3 lt tf0 tf1 tf2 tf3
       go_must (have e0 : (w11).cell? ⟨be, 0, none⟩ = some (.slice (some ⟨b, off, none⟩) nl lc) := CS8.out.eb.cell rfl)
       go_must (have x0 : (w11).cell? ⟨bx, 0, none⟩ = some (.int .i64 (31 : Int)) := CS8.out.xb.cell rfl)
       go_must (have x1 : (w11).cell? ⟨bx, 1, none⟩ = some (.string (txt s)) := CS8.out.xb.cell rfl)
       go_must (have x2 : (w11).cell? ⟨bx, 2, none⟩ = some (.int .i64 n) := CS8.out.xb.cell rfl)
       go_must (have x3 : (w11).cell? ⟨bx, 3, none⟩ = some (.slice (some ⟨kb, ko, none⟩) 2 kc) := CS8.out.xb.cell rfl)
       go_must (have le : be < (w11).heap.size := Nat.lt_of_lt_of_le CS8.out.le CS8.out.lB)
       go_must (have lx : bx < (w11).heap.size := Nat.lt_of_lt_of_le CS8.out.lx CS8.out.lB)
       go_must (have k0 : (w11).cell? ⟨kb, ko, none⟩ = some (.int .i64 (qta : Int)) := rkid_cell (j := 0) HKV.out Eta.out (HH.out.hw.trans (CS8.out.bel.mono HH.out.hw.size)))
       go_must (have k1 : (w11).cell? ⟨kb, ko + 1, none⟩ = some (.int .i64 (qtb : Int)) := rkid_cell (j := 1) HKV.out Etb.out (HH.out.hw.trans (CS8.out.bel.mono HH.out.hw.size)))
       go_must (have y0 : (w11).cell? ⟨w8.heap.size, 0, none⟩ = some (.int .i64 39) := By8.out.cell rfl)
       go_must (have y1 : (w11).cell? ⟨w8.heap.size, 1, none⟩ = some (.int .i64 0) := By8.out.cell rfl)
       go_must (have y2 : (w11).cell? ⟨w8.heap.size, 2, none⟩ = some (.int .i64 0) := By8.out.cell rfl)
       go_must (have y3 : (w11).cell? ⟨w8.heap.size, 3, none⟩ = some (.string ⟨#[]⟩) := By8.out.cell rfl)
       go_must (have ly : w8.heap.size < (w11).heap.size := By8.out.lt)
       go_must (have yf0 : (w11).frozen? ⟨w8.heap.size, 0, none⟩ = false := By8.out.frozen 0)
       go_must (have yf1 : (w11).frozen? ⟨w8.heap.size, 1, none⟩ = false := By8.out.frozen 1)
       go_must (have yf2 : (w11).frozen? ⟨w8.heap.size, 2, none⟩ = false := By8.out.frozen 2)
       go_must (have yf3 : (w11).frozen? ⟨w8.heap.size, 3, none⟩ = false := By8.out.frozen 3)
       go_must (have t0 : (w11).cell? ⟨(w8.heap.size + 1), 0, none⟩ = some (.int .i64 40) := Bt8.out.cell rfl)
       go_must (have t1 : (w11).cell? ⟨(w8.heap.size + 1), 1, none⟩ = some (.int .i64 0) := Bt8.out.cell rfl)
       go_must (have t2 : (w11).cell? ⟨(w8.heap.size + 1), 2, none⟩ = some (.int .i64 0) := Bt8.out.cell rfl)
       go_must (have t3 : (w11).cell? ⟨(w8.heap.size + 1), 3, none⟩ = some (.string ⟨#[]⟩) := Bt8.out.cell rfl)
       go_must (have lt : (w8.heap.size + 1) < (w11).heap.size := Bt8.out.lt)
       go_must (have tf0 : (w11).frozen? ⟨(w8.heap.size + 1), 0, none⟩ = false := Bt8.out.frozen 0)
       go_must (have tf1 : (w11).frozen? ⟨(w8.heap.size + 1), 1, none⟩ = false := Bt8.out.frozen 1)
       go_must (have tf2 : (w11).frozen? ⟨(w8.heap.size + 1), 2, none⟩ = false := Bt8.out.frozen 2)
       go_must (have tf3 : (w11).frozen? ⟨(w8.heap.size + 1), 3, none⟩ = false := Bt8.out.frozen 3))
    | fail)
  go_upto_region 41 with fail
  generalize hW12 : World.setCell _ _ _ = W12
  have CS9 : Hid (CSt W W12 (.slice (some ⟨b, off, none⟩) nl lc) be bx #[.int .i64 (31 : Int), .string (txt s), .int .i64 n, .slice (some ⟨kb, ko, none⟩) 2 kc] bs) := Lib.hid (by rw [← hW12]; exact (CS8.out.set_ (g := (w8.heap.size + 1)) (by omega) _ _))
  have RA9 : Hid (Own1 W12 W4.heap.size 46 4 Ins.Is (.slice aA nA cA) oA) := Lib.hid (by rw [← hW12]; exact (RA8.out.setOther (p := ⟨(w8.heap.size + 1), 1, none⟩) (fun e => by have := UA.out ((w8.heap.size + 1)) e; omega) _))
  have RB9 : Hid (Own1 W12 W10.heap.size 46 4 Ins.Is (.slice aB nB cB) oB) := Lib.hid (by rw [← hW12]; exact (RB.out.setOther (p := ⟨(w8.heap.size + 1), 1, none⟩) (fun e => by have := UB.out ((w8.heap.size + 1)) e; omega) _))
  have By9 : Hid (Blk W12 w8.heap.size 46 #[.int .i64 39, .int .i64 0, .int .i64 0, .string ⟨#[]⟩]) := Lib.hid (by rw [← hW12]; exact (By8.out.far (p := ⟨(w8.heap.size + 1), 1, none⟩) (by show _ ≠ (w8.heap.size + 1); omega) _))
  have Bt9 : Hid (Blk W12 (w8.heap.size + 1) 46 #[.int .i64 40, .int .i64 ((nA : Int) + 1), .int .i64 0, .string ⟨#[]⟩]) := Lib.hid (by rw [← hW12]; have := (Bt8.out.set_ 1 (.int .i64 ((nA : Int) + 1))); simpa using this)
  have hsW12 : w11.heap.size ≤ W12.heap.size := by rw [← hW12]; simp
  clear hW12
  clear e0 x0 x1 x2 x3 le lx k0 k1 y0 y1 y2 y3 ly yf0 yf1 yf2 yf3 t0 t1 t2 t3 lt tf0 tf1 tf2 tf3
  have e0 : (W12).cell? ⟨be, 0, none⟩ = some (.slice (some ⟨b, off, none⟩) nl lc) := CS9.out.eb.cell rfl
  have x0 : (W12).cell? ⟨bx, 0, none⟩ = some (.int .i64 (31 : Int)) := CS9.out.xb.cell rfl
  have x1 : (W12).cell? ⟨bx, 1, none⟩ = some (.string (txt s)) := CS9.out.xb.cell rfl
  have x2 : (W12).cell? ⟨bx, 2, none⟩ = some (.int .i64 n) := CS9.out.xb.cell rfl
  have x3 : (W12).cell? ⟨bx, 3, none⟩ = some (.slice (some ⟨kb, ko, none⟩) 2 kc) := CS9.out.xb.cell rfl
  have le : be < (W12).heap.size := Nat.lt_of_lt_of_le CS9.out.le CS9.out.lB
  have lx : bx < (W12).heap.size := Nat.lt_of_lt_of_le CS9.out.lx CS9.out.lB
  have k0 : (W12).cell? ⟨kb, ko, none⟩ = some (.int .i64 (qta : Int)) := rkid_cell (j := 0) HKV.out Eta.out (HH.out.hw.trans (CS9.out.bel.mono HH.out.hw.size))
  have k1 : (W12).cell? ⟨kb, ko + 1, none⟩ = some (.int .i64 (qtb : Int)) := rkid_cell (j := 1) HKV.out Etb.out (HH.out.hw.trans (CS9.out.bel.mono HH.out.hw.size))
  have y0 : (W12).cell? ⟨w8.heap.size, 0, none⟩ = some (.int .i64 39) := By9.out.cell rfl
  have y1 : (W12).cell? ⟨w8.heap.size, 1, none⟩ = some (.int .i64 0) := By9.out.cell rfl
  have y2 : (W12).cell? ⟨w8.heap.size, 2, none⟩ = some (.int .i64 0) := By9.out.cell rfl
  have y3 : (W12).cell? ⟨w8.heap.size, 3, none⟩ = some (.string ⟨#[]⟩) := By9.out.cell rfl
  have ly : w8.heap.size < (W12).heap.size := By9.out.lt
  have yf0 : (W12).frozen? ⟨w8.heap.size, 0, none⟩ = false := By9.out.frozen 0
  have yf1 : (W12).frozen? ⟨w8.heap.size, 1, none⟩ = false := By9.out.frozen 1
  have yf2 : (W12).frozen? ⟨w8.heap.size, 2, none⟩ = false := By9.out.frozen 2
  have yf3 : (W12).frozen? ⟨w8.heap.size, 3, none⟩ = false := By9.out.frozen 3
  have t0 : (W12).cell? ⟨(w8.heap.size + 1), 0, none⟩ = some (.int .i64 40) := Bt9.out.cell rfl
  have t1 : (W12).cell? ⟨(w8.heap.size + 1), 1, none⟩ = some (.int .i64 ((nA : Int) + 1)) := Bt9.out.cell rfl
  have t2 : (W12).cell? ⟨(w8.heap.size + 1), 2, none⟩ = some (.int .i64 0) := Bt9.out.cell rfl
  have t3 : (W12).cell? ⟨(w8.heap.size + 1), 3, none⟩ = some (.string ⟨#[]⟩) := Bt9.out.cell rfl
  have lt : (w8.heap.size + 1) < (W12).heap.size := Bt9.out.lt
  have tf0 : (W12).frozen? ⟨(w8.heap.size + 1), 0, none⟩ = false := Bt9.out.frozen 0
  have tf1 : (W12).frozen? ⟨(w8.heap.size + 1), 1, none⟩ = false := Bt9.out.frozen 1
  have tf2 : (W12).frozen? ⟨(w8.heap.size + 1), 2, none⟩ = false := Bt9.out.frozen 2
  have tf3 : (W12).frozen? ⟨(w8.heap.size + 1), 3, none⟩ = false := Bt9.out.frozen 3
  go_upto_region 42 with fail
  generalize hW13 : World.setCell _ _ _ = W13
  have CS10 : Hid (CSt W W13 (.slice (some ⟨b, off, none⟩) nl lc) be bx #[.int .i64 (31 : Int), .string (txt s), .int .i64 n, .slice (some ⟨kb, ko, none⟩) 2 kc] bs) := Lib.hid (by rw [← hW13]; exact (CS9.out.set_ (g := w8.heap.size) (by omega) _ _))
  have RA10 : Hid (Own1 W13 W4.heap.size 46 4 Ins.Is (.slice aA nA cA) oA) := Lib.hid (by rw [← hW13]; exact (RA9.out.setOther (p := ⟨w8.heap.size, 1, none⟩) (fun e => by have := UA.out (w8.heap.size) e; omega) _))
  have RB10 : Hid (Own1 W13 W10.heap.size 46 4 Ins.Is (.slice aB nB cB) oB) := Lib.hid (by rw [← hW13]; exact (RB9.out.setOther (p := ⟨w8.heap.size, 1, none⟩) (fun e => by have := UB.out (w8.heap.size) e; omega) _))
  have Bt10 : Hid (Blk W13 (w8.heap.size + 1) 46 #[.int .i64 40, .int .i64 ((nA : Int) + 1), .int .i64 0, .string ⟨#[]⟩]) := Lib.hid (by rw [← hW13]; exact (Bt9.out.far (p := ⟨w8.heap.size, 1, none⟩) (by show _ ≠ w8.heap.size; omega) _))
  have By10 : Hid (Blk W13 w8.heap.size 46 #[.int .i64 39, .int .i64 ((nA : Int) + 2 + (nB : Int) + 1), .int .i64 0, .string ⟨#[]⟩]) := Lib.hid (by rw [← hW13]; have := (By9.out.set_ 1 (.int .i64 ((nA : Int) + 2 + (nB : Int) + 1))); simpa using this)
  have hsW13 : W12.heap.size ≤ W13.heap.size := by rw [← hW13]; simp
  clear hW13
  clear e0 x0 x1 x2 x3 le lx k0 k1 y0 y1 y2 y3 ly yf0 yf1 yf2 yf3 t0 t1 t2 t3 lt tf0 tf1 tf2 tf3
  have e0 : (W13).cell? ⟨be, 0, none⟩ = some (.slice (some ⟨b, off, none⟩) nl lc) := CS10.out.eb.cell rfl
  have x0 : (W13).cell? ⟨bx, 0, none⟩ = some (.int .i64 (31 : Int)) := CS10.out.xb.cell rfl
  have x1 : (W13).cell? ⟨bx, 1, none⟩ = some (.string (txt s)) := CS10.out.xb.cell rfl
  have x2 : (W13).cell? ⟨bx, 2, none⟩ = some (.int .i64 n) := CS10.out.xb.cell rfl
  have x3 : (W13).cell? ⟨bx, 3, none⟩ = some (.slice (some ⟨kb, ko, none⟩) 2 kc) := CS10.out.xb.cell rfl
  have le : be < (W13).heap.size := Nat.lt_of_lt_of_le CS10.out.le CS10.out.lB
  have lx : bx < (W13).heap.size := Nat.lt_of_lt_of_le CS10.out.lx CS10.out.lB
  have k0 : (W13).cell? ⟨kb, ko, none⟩ = some (.int .i64 (qta : Int)) := rkid_cell (j := 0) HKV.out Eta.out (HH.out.hw.trans (CS10.out.bel.mono HH.out.hw.size))
  have k1 : (W13).cell? ⟨kb, ko + 1, none⟩ = some (.int .i64 (qtb : Int)) := rkid_cell (j := 1) HKV.out Etb.out (HH.out.hw.trans (CS10.out.bel.mono HH.out.hw.size))
  have y0 : (W13).cell? ⟨w8.heap.size, 0, none⟩ = some (.int .i64 39) := By10.out.cell rfl
  have y1 : (W13).cell? ⟨w8.heap.size, 1, none⟩ = some (.int .i64 ((nA : Int) + 2 + (nB : Int) + 1)) := By10.out.cell rfl
  have y2 : (W13).cell? ⟨w8.heap.size, 2, none⟩ = some (.int .i64 0) := By10.out.cell rfl
  have y3 : (W13).cell? ⟨w8.heap.size, 3, none⟩ = some (.string ⟨#[]⟩) := By10.out.cell rfl
  have ly : w8.heap.size < (W13).heap.size := By10.out.lt
  have yf0 : (W13).frozen? ⟨w8.heap.size, 0, none⟩ = false := By10.out.frozen 0
  have yf1 : (W13).frozen? ⟨w8.heap.size, 1, none⟩ = false := By10.out.frozen 1
  have yf2 : (W13).frozen? ⟨w8.heap.size, 2, none⟩ = false := By10.out.frozen 2
  have yf3 : (W13).frozen? ⟨w8.heap.size, 3, none⟩ = false := By10.out.frozen 3
  have t0 : (W13).cell? ⟨(w8.heap.size + 1), 0, none⟩ = some (.int .i64 40) := Bt10.out.cell rfl
  have t1 : (W13).cell? ⟨(w8.heap.size + 1), 1, none⟩ = some (.int .i64 ((nA : Int) + 1)) := Bt10.out.cell rfl
  have t2 : (W13).cell? ⟨(w8.heap.size + 1), 2, none⟩ = some (.int .i64 0) := Bt10.out.cell rfl
  have t3 : (W13).cell? ⟨(w8.heap.size + 1), 3, none⟩ = some (.string ⟨#[]⟩) := Bt10.out.cell rfl
  have lt : (w8.heap.size + 1) < (W13).heap.size := Bt10.out.lt
  have tf0 : (W13).frozen? ⟨(w8.heap.size + 1), 0, none⟩ = false := Bt10.out.frozen 0
  have tf1 : (W13).frozen? ⟨(w8.heap.size + 1), 1, none⟩ = false := Bt10.out.frozen 1
  have tf2 : (W13).frozen? ⟨(w8.heap.size + 1), 2, none⟩ = false := Bt10.out.frozen 2
  have tf3 : (W13).frozen? ⟨(w8.heap.size + 1), 3, none⟩ = false := Bt10.out.frozen 3
  go_cut [11] from 183 to 193 (fun v11 wx => Hid (∃ base, bs ≤ base ∧ base ≤ wx.heap.size ∧ Own1 wx base 46 4 Ins.Is v11 (thenN (oA ++ [insI 35 0, insI 39 ((nA : Int) + 2 + (nB : Int) + 1)]) oB) ∧ CSt W wx (.slice (some ⟨b, off, none⟩) nl lc) be bx #[.int .i64 (31 : Int), .string (txt s), .int .i64 n, .slice (some ⟨kb, ko, none⟩) 2 kc] bs ∧ Blk wx (w8.heap.size + 1) 46 #[.int .i64 40, .int .i64 ((nA : Int) + 1), .int .i64 0, .string ⟨#[]⟩]))
  case first =>
    have tokW : True := trivial
    have tokI : True := trivial
    have tokP : True := trivial
    have tokT : True := trivial
    have CS11 := Lib.hid (CS10.out.drew)
    have RA11 := Lib.hid (RA10.out.drew)
    have RB11 := Lib.hid (RB10.out.drew)
    have By11 := Lib.hid (By10.out.drwC)
    have Bt11 := Lib.hid (Bt10.out.drwC)
    have hsd : W13.heap.size ≤ W13.drew.heap.size := Nat.le_refl _
    go_region_law (first
      | (have _t := tokW; go_simp; go_at_call 56; go_must (refine (WK.out _).mono ?_); clear tokW _t
         rintro e w' ⟨rfl, nq, rfl⟩
         go_must (have CS23 := Lib.hid (CS10.out.drewN (1 + nq)))
         go_must (have RA23 := Lib.hid (RA10.out.drewN (1 + nq)))
         go_must (have RB23 := Lib.hid (RB10.out.drewN (1 + nq)))
         go_must (have By23 := Lib.hid (By10.out.drwN (1 + nq)))
         go_must (have Bt23 := Lib.hid (Bt10.out.drwN (1 + nq)))
         go_must (have hsq : W13.heap.size ≤ (W13.drewN (1 + nq)).heap.size := Nat.le_refl _)
         clear e0 x0 x1 x2 x3 le lx k0 k1 y0 y1 y2 y3 ly yf0 yf1 yf2 yf3 t0 t1 t2 t3 lt tf0 tf1 tf2 tf3
         go_must (have e0 : ((W13.drewN (1 + nq))).cell? ⟨be, 0, none⟩ = some (.slice (some ⟨b, off, none⟩) nl lc) := CS23.out.eb.cell rfl)
         go_must (have x0 : ((W13.drewN (1 + nq))).cell? ⟨bx, 0, none⟩ = some (.int .i64 (31 : Int)) := CS23.out.xb.cell rfl)
         go_must (have x1 : ((W13.drewN (1 + nq))).cell? ⟨bx, 1, none⟩ = some (.string (txt s)) := CS23.out.xb.cell rfl)
         go_must (have x2 : ((W13.drewN (1 + nq))).cell? ⟨bx, 2, none⟩ = some (.int .i64 n) := CS23.out.xb.cell rfl)
         go_must (have x3 : ((W13.drewN (1 + nq))).cell? ⟨bx, 3, none⟩ = some (.slice (some ⟨kb, ko, none⟩) 2 kc) := CS23.out.xb.cell rfl)
         go_must (have le : be < ((W13.drewN (1 + nq))).heap.size := Nat.lt_of_lt_of_le CS23.out.le CS23.out.lB)
         go_must (have lx : bx < ((W13.drewN (1 + nq))).heap.size := Nat.lt_of_lt_of_le CS23.out.lx CS23.out.lB)
         go_must (have k0 : ((W13.drewN (1 + nq))).cell? ⟨kb, ko, none⟩ = some (.int .i64 (qta : Int)) := rkid_cell (j := 0) HKV.out Eta.out (HH.out.hw.trans (CS23.out.bel.mono HH.out.hw.size)))
         go_must (have k1 : ((W13.drewN (1 + nq))).cell? ⟨kb, ko + 1, none⟩ = some (.int .i64 (qtb : Int)) := rkid_cell (j := 1) HKV.out Etb.out (HH.out.hw.trans (CS23.out.bel.mono HH.out.hw.size)))
         go_must (have y0 : ((W13.drewN (1 + nq))).cell? ⟨w8.heap.size, 0, none⟩ = some (.int .i64 39) := By23.out.cell rfl)
         go_must (have y1 : ((W13.drewN (1 + nq))).cell? ⟨w8.heap.size, 1, none⟩ = some (.int .i64 ((nA : Int) + 2 + (nB : Int) + 1)) := By23.out.cell rfl)
         go_must (have y2 : ((W13.drewN (1 + nq))).cell? ⟨w8.heap.size, 2, none⟩ = some (.int .i64 0) := By23.out.cell rfl)
         go_must (have y3 : ((W13.drewN (1 + nq))).cell? ⟨w8.heap.size, 3, none⟩ = some (.string ⟨#[]⟩) := By23.out.cell rfl)
         go_must (have ly : w8.heap.size < ((W13.drewN (1 + nq))).heap.size := By23.out.lt)
         go_must (have yf0 : ((W13.drewN (1 + nq))).frozen? ⟨w8.heap.size, 0, none⟩ = false := By23.out.frozen 0)
         go_must (have yf1 : ((W13.drewN (1 + nq))).frozen? ⟨w8.heap.size, 1, none⟩ = false := By23.out.frozen 1)
         go_must (have yf2 : ((W13.drewN (1 + nq))).frozen? ⟨w8.heap.size, 2, none⟩ = false := By23.out.frozen 2)
         go_must (have yf3 : ((W13.drewN (1 + nq))).frozen? ⟨w8.heap.size, 3, none⟩ = false := By23.out.frozen 3)
         go_must (have t0 : ((W13.drewN (1 + nq))).cell? ⟨(w8.heap.size + 1), 0, none⟩ = some (.int .i64 40) := Bt23.out.cell rfl)
         go_must (have t1 : ((W13.drewN (1 + nq))).cell? ⟨(w8.heap.size + 1), 1, none⟩ = some (.int .i64 ((nA : Int) + 1)) := Bt23.out.cell rfl)
         go_must (have t2 : ((W13.drewN (1 + nq))).cell? ⟨(w8.heap.size + 1), 2, none⟩ = some (.int .i64 0) := Bt23.out.cell rfl)
         go_must (have t3 : ((W13.drewN (1 + nq))).cell? ⟨(w8.heap.size + 1), 3, none⟩ = some (.string ⟨#[]⟩) := Bt23.out.cell rfl)
         go_must (have lt : (w8.heap.size + 1) < ((W13.drewN (1 + nq))).heap.size := Bt23.out.lt)
         go_must (have tf0 : ((W13.drewN (1 + nq))).frozen? ⟨(w8.heap.size + 1), 0, none⟩ = false := Bt23.out.frozen 0)
         go_must (have tf1 : ((W13.drewN (1 + nq))).frozen? ⟨(w8.heap.size + 1), 1, none⟩ = false := Bt23.out.frozen 1)
         go_must (have tf2 : ((W13.drewN (1 + nq))).frozen? ⟨(w8.heap.size + 1), 2, none⟩ = false := Bt23.out.frozen 2)
         go_must (have tf3 : ((W13.drewN (1 + nq))).frozen? ⟨(w8.heap.size + 1), 3, none⟩ = false := Bt23.out.frozen 3))
      | (have _t := tokI; go_simp; go_at_call 55; go_must (refine (IK.out _).mono ?_); clear tokI _t
         rintro e w14 ⟨rfl, hb⟩
         go_must (have CS24 := Lib.hid (CS23.out.call hb))
         go_must (have RA24 := Lib.hid (RA23.out.below hb (Nat.le_refl _)))
         go_must (have RB24 := Lib.hid (RB23.out.below hb (Nat.le_refl _)))
         go_must (have By24 := Lib.hid (By23.out.below hb By23.out.lt))
         go_must (have Bt24 := Lib.hid (Bt23.out.below hb Bt23.out.lt))
         go_must (have hsw14 := hb.size)
         clear hb
         clear e0 x0 x1 x2 x3 le lx k0 k1 y0 y1 y2 y3 ly yf0 yf1 yf2 yf3 t0 t1 t2 t3 lt tf0 tf1 tf2 tf3
         go_must (have e0 : (w14).cell? ⟨be, 0, none⟩ = some (.slice (some ⟨b, off, none⟩) nl lc) := CS24.out.eb.cell rfl)
         go_must (have x0 : (w14).cell? ⟨bx, 0, none⟩ = some (.int .i64 (31 : Int)) := CS24.out.xb.cell rfl)
         go_must (have x1 : (w14).cell? ⟨bx, 1, none⟩ = some (.string (txt s)) := CS24.out.xb.cell rfl)
         go_must (have x2 : (w14).cell? ⟨bx, 2, none⟩ = some (.int .i64 n) := CS24.out.xb.cell rfl)
         go_must (have x3 : (w14).cell? ⟨bx, 3, none⟩ = some (.slice (some ⟨kb, ko, none⟩) 2 kc) := CS24.out.xb.cell rfl)
         go_must (have le : be < (w14).heap.size := Nat.lt_of_lt_of_le CS24.out.le CS24.out.lB)
         go_must (have lx : bx < (w14).heap.size := Nat.lt_of_lt_of_le CS24.out.lx CS24.out.lB)
         go_must (have k0 : (w14).cell? ⟨kb, ko, none⟩ = some (.int .i64 (qta : Int)) := rkid_cell (j := 0) HKV.out Eta.out (HH.out.hw.trans (CS24.out.bel.mono HH.out.hw.size)))
         go_must (have k1 : (w14).cell? ⟨kb, ko + 1, none⟩ = some (.int .i64 (qtb : Int)) := rkid_cell (j := 1) HKV.out Etb.out (HH.out.hw.trans (CS24.out.bel.mono HH.out.hw.size)))
         go_must (have y0 : (w14).cell? ⟨w8.heap.size, 0, none⟩ = some (.int .i64 39) := By24.out.cell rfl)
         go_must (have y1 : (w14).cell? ⟨w8.heap.size, 1, none⟩ = some (.int .i64 ((nA : Int) + 2 + (nB : Int) + 1)) := By24.out.cell rfl)
         go_must (have y2 : (w14).cell? ⟨w8.heap.size, 2, none⟩ = some (.int .i64 0) := By24.out.cell rfl)
         go_must (have y3 : (w14).cell? ⟨w8.heap.size, 3, none⟩ = some (.string ⟨#[]⟩) := By24.out.cell rfl)
         go_must (have ly : w8.heap.size < (w14).heap.size := By24.out.lt)
         go_must (have yf0 : (w14).frozen? ⟨w8.heap.size, 0, none⟩ = false := By24.out.frozen 0)
         go_must (have yf1 : (w14).frozen? ⟨w8.heap.size, 1, none⟩ = false := By24.out.frozen 1)
         go_must (have yf2 : (w14).frozen? ⟨w8.heap.size, 2, none⟩ = false := By24.out.frozen 2)
         go_must (have yf3 : (w14).frozen? ⟨w8.heap.size, 3, none⟩ = false := By24.out.frozen 3)
         go_must (have t0 : (w14).cell? ⟨(w8.heap.size + 1), 0, none⟩ = some (.int .i64 40) := Bt24.out.cell rfl)
         go_must (have t1 : (w14).cell? ⟨(w8.heap.size + 1), 1, none⟩ = some (.int .i64 ((nA : Int) + 1)) := Bt24.out.cell rfl)
         go_must (have t2 : (w14).cell? ⟨(w8.heap.size + 1), 2, none⟩ = some (.int .i64 0) := Bt24.out.cell rfl)
         go_must (have t3 : (w14).cell? ⟨(w8.heap.size + 1), 3, none⟩ = some (.string ⟨#[]⟩) := Bt24.out.cell rfl)
         go_must (have lt : (w8.heap.size + 1) < (w14).heap.size := Bt24.out.lt)
         go_must (have tf0 : (w14).frozen? ⟨(w8.heap.size + 1), 0, none⟩ = false := Bt24.out.frozen 0)
         go_must (have tf1 : (w14).frozen? ⟨(w8.heap.size + 1), 1, none⟩ = false := Bt24.out.frozen 1)
         go_must (have tf2 : (w14).frozen? ⟨(w8.heap.size + 1), 2, none⟩ = false := Bt24.out.frozen 2)
         go_must (have tf3 : (w14).frozen? ⟨(w8.heap.size + 1), 3, none⟩ = false := Bt24.out.frozen 3))
      | (have _t := tokT; go_simp; go_at_call 58; go_must (refine (rthen_any w15 (RA25.out.read (by decide)) (RB25.out.read (by decide)) OPSB.out (by have := HNA.out; simp <;> omega) (by have := HNB.out; omega)).mono ?_); clear tokT _t
         rintro e w16 ⟨ov, rfl, hk1, hk2⟩
         go_must (have CS26 := Lib.hid (CS25.out.call hk2))
         go_must (have Bt26 := Lib.hid (Bt25.out.below hk2 Bt25.out.lt))
         go_must (have hsw16 := hk2.size)
         obtain ⟨aT, cT, rfl⟩ := hk1.form
         obtain ⟨nT, hnT⟩ : ∃ z, ((thenN (oA ++ [(insI 35 0), (insI 39 ((nA : Int) + 2 + (nB : Int) + 1))]) oB)).length = z := ⟨_, rfl⟩
         rw [hnT] at hk1 ⊢
         go_must (have bT : nT ≤ 2100 := by rw [← hnT, thenN_len]; have := HNA.out; have := HNB.out; simp <;> omega)
         go_must (have HNT := Lib.hid hnT)
         go_must (have UT := Lib.hid hk1.block)
         go_must (have RT := Lib.hid hk1)
         clear hnT hk1
         clear hk2
         clear e0 x0 x1 x2 x3 le lx k0 k1 t0 t1 t2 t3 lt tf0 tf1 tf2 tf3
         go_must (have e0 : (w16).cell? ⟨be, 0, none⟩ = some (.slice (some ⟨b, off, none⟩) nl lc) := CS26.out.eb.cell rfl)
         go_must (have x0 : (w16).cell? ⟨bx, 0, none⟩ = some (.int .i64 (31 : Int)) := CS26.out.xb.cell rfl)
         go_must (have x1 : (w16).cell? ⟨bx, 1, none⟩ = some (.string (txt s)) := CS26.out.xb.cell rfl)
         go_must (have x2 : (w16).cell? ⟨bx, 2, none⟩ = some (.int .i64 n) := CS26.out.xb.cell rfl)
         go_must (have x3 : (w16).cell? ⟨bx, 3, none⟩ = some (.slice (some ⟨kb, ko, none⟩) 2 kc) := CS26.out.xb.cell rfl)
         go_must (have le : be < (w16).heap.size := Nat.lt_of_lt_of_le CS26.out.le CS26.out.lB)
         go_must (have lx : bx < (w16).heap.size := Nat.lt_of_lt_of_le CS26.out.lx CS26.out.lB)
         go_must (have k0 : (w16).cell? ⟨kb, ko, none⟩ = some (.int .i64 (qta : Int)) := rkid_cell (j := 0) HKV.out Eta.out (HH.out.hw.trans (CS26.out.bel.mono HH.out.hw.size)))
         go_must (have k1 : (w16).cell? ⟨kb, ko + 1, none⟩ = some (.int .i64 (qtb : Int)) := rkid_cell (j := 1) HKV.out Etb.out (HH.out.hw.trans (CS26.out.bel.mono HH.out.hw.size)))
         go_must (have t0 : (w16).cell? ⟨(w8.heap.size + 1), 0, none⟩ = some (.int .i64 40) := Bt26.out.cell rfl)
         go_must (have t1 : (w16).cell? ⟨(w8.heap.size + 1), 1, none⟩ = some (.int .i64 ((nA : Int) + 1)) := Bt26.out.cell rfl)
         go_must (have t2 : (w16).cell? ⟨(w8.heap.size + 1), 2, none⟩ = some (.int .i64 0) := Bt26.out.cell rfl)
         go_must (have t3 : (w16).cell? ⟨(w8.heap.size + 1), 3, none⟩ = some (.string ⟨#[]⟩) := Bt26.out.cell rfl)
         go_must (have lt : (w8.heap.size + 1) < (w16).heap.size := Bt26.out.lt)
         go_must (have tf0 : (w16).frozen? ⟨(w8.heap.size + 1), 0, none⟩ = false := Bt26.out.frozen 0)
         go_must (have tf1 : (w16).frozen? ⟨(w8.heap.size + 1), 1, none⟩ = false := Bt26.out.frozen 1)
         go_must (have tf2 : (w16).frozen? ⟨(w8.heap.size + 1), 2, none⟩ = false := Bt26.out.frozen 2)
         go_must (have tf3 : (w16).frozen? ⟨(w8.heap.size + 1), 3, none⟩ = false := Bt26.out.frozen 3))
      | (have _t := tokP
         skip
         go_must (refine step_append_list rfl (.tmp 183) (.tmp 189) _ (by rfl) W4.heap.size (w14.heap.size + 1) 46 jI _ 4 40 Tryd.underlying22 I.out.1 I.out.2.1 I.out.2.2.1 I.out.2.2.2 rfl (by omega) (R := Ins.Is) (l := oA) (m := [(insI 35 0), (insI 39 ((nA : Int) + 2 + (nB : Int) + 1))]) (.slice aA nA cA) (by rfl) (by exact (RA24.out.alloc (.cells #[.int .i64 35, .int .i64 0, .int .i64 0, .string ⟨#[]⟩, .int .i64 39, .int .i64 ((nA : Int) + 2 + (nB : Int) + 1), .int .i64 0, .string ⟨#[]⟩] 46))) (some ⟨w14.heap.size, 0, none⟩) 2 2 (by rfl) (by exact SlR.new2 (w := w14) (e := 46) (g := w14.heap.size) (R := Ins.Is) (x := [.int .i64 35, .int .i64 0, .int .i64 0, .string ⟨#[]⟩]) (x' := [.int .i64 39, .int .i64 ((nA : Int) + 2 + (nB : Int) + 1), .int .i64 0, .string ⟨#[]⟩]) (y := (insI 35 0)) (y' := (insI 39 ((nA : Int) + 2 + (nB : Int) + 1))) rfl (by omega) rfl rfl ⟨rfl, ins_ok (by omega) (by omega) (by omega) (by omega) (by omega) (by omega) nil_size⟩ ⟨rfl, ins_ok (by omega) (by omega) (by omega) (by omega) (by omega) (by omega) nil_size⟩) (nA + 2) (by rw [HNA.out]) Ins.Is.one (by have := HNA.out; unfold maxLen; simp <;> omega) (by have := HNA.out; simp <;> omega) (by simp <;> omega) ?_)
         clear tokP _t
         intro aA' cA' w15 hown hgr
         go_must (have CS25 := Lib.hid ((CS24.out.alloc (.cells #[.int .i64 35, .int .i64 0, .int .i64 0, .string ⟨#[]⟩, .int .i64 39, .int .i64 ((nA : Int) + 2 + (nB : Int) + 1), .int .i64 0, .string ⟨#[]⟩] 46)).grown ((RA24.out.alloc (.cells #[.int .i64 35, .int .i64 0, .int .i64 0, .string ⟨#[]⟩, .int .i64 39, .int .i64 ((nA : Int) + 2 + (nB : Int) + 1), .int .i64 0, .string ⟨#[]⟩] 46)).mono (by have := CS24.out.lB; omega)) hgr))
         go_must (have RB25 := Lib.hid ((RB24.out.alloc (.cells #[.int .i64 35, .int .i64 0, .int .i64 0, .string ⟨#[]⟩, .int .i64 39, .int .i64 ((nA : Int) + 2 + (nB : Int) + 1), .int .i64 0, .string ⟨#[]⟩] 46)).keepG (RA24.out.alloc (.cells #[.int .i64 35, .int .i64 0, .int .i64 0, .string ⟨#[]⟩, .int .i64 39, .int .i64 ((nA : Int) + 2 + (nB : Int) + 1), .int .i64 0, .string ⟨#[]⟩] 46)) hgr (.inr (fun g e => by have := (UA.out g e).2; omega))))
         go_must (have Bt25 := Lib.hid ((Bt24.out.alloc (.cells #[.int .i64 35, .int .i64 0, .int .i64 0, .string ⟨#[]⟩, .int .i64 39, .int .i64 ((nA : Int) + 2 + (nB : Int) + 1), .int .i64 0, .string ⟨#[]⟩] 46)).grown hgr (fun e => by have := UA.out ((w8.heap.size + 1)) e.symm; omega)))
         go_must (have RA25 := Lib.hid hown)
         go_must (have hsw15 : w14.heap.size < w15.heap.size := by have := hgr.size; simp at this; omega)
         clear hown hgr
         clear e0 x0 x1 x2 x3 le lx k0 k1 y0 y1 y2 y3 ly yf0 yf1 yf2 yf3 t0 t1 t2 t3 lt tf0 tf1 tf2 tf3
         go_must (have e0 : (w15).cell? ⟨be, 0, none⟩ = some (.slice (some ⟨b, off, none⟩) nl lc) := CS25.out.eb.cell rfl)
         go_must (have x0 : (w15).cell? ⟨bx, 0, none⟩ = some (.int .i64 (31 : Int)) := CS25.out.xb.cell rfl)
         go_must (have x1 : (w15).cell? ⟨bx, 1, none⟩ = some (.string (txt s)) := CS25.out.xb.cell rfl)
         go_must (have x2 : (w15).cell? ⟨bx, 2, none⟩ = some (.int .i64 n) := CS25.out.xb.cell rfl)
         go_must (have x3 : (w15).cell? ⟨bx, 3, none⟩ = some (.slice (some ⟨kb, ko, none⟩) 2 kc) := CS25.out.xb.cell rfl)
         go_must (have le : be < (w15).heap.size := Nat.lt_of_lt_of_le CS25.out.le CS25.out.lB)
         go_must (have lx : bx < (w15).heap.size := Nat.lt_of_lt_of_le CS25.out.lx CS25.out.lB)
         go_must (have k0 : (w15).cell? ⟨kb, ko, none⟩ = some (.int .i64 (qta : Int)) := rkid_cell (j := 0) HKV.out Eta.out (HH.out.hw.trans (CS25.out.bel.mono HH.out.hw.size)))
         go_must (have k1 : (w15).cell? ⟨kb, ko + 1, none⟩ = some (.int .i64 (qtb : Int)) := rkid_cell (j := 1) HKV.out Etb.out (HH.out.hw.trans (CS25.out.bel.mono HH.out.hw.size)))
         go_must (have t0 : (w15).cell? ⟨(w8.heap.size + 1), 0, none⟩ = some (.int .i64 40) := Bt25.out.cell rfl)
         go_must (have t1 : (w15).cell? ⟨(w8.heap.size + 1), 1, none⟩ = some (.int .i64 ((nA : Int) + 1)) := Bt25.out.cell rfl)
         go_must (have t2 : (w15).cell? ⟨(w8.heap.size + 1), 2, none⟩ = some (.int .i64 0) := Bt25.out.cell rfl)
         go_must (have t3 : (w15).cell? ⟨(w8.heap.size + 1), 3, none⟩ = some (.string ⟨#[]⟩) := Bt25.out.cell rfl)
         go_must (have lt : (w8.heap.size + 1) < (w15).heap.size := Bt25.out.lt)
         go_must (have tf0 : (w15).frozen? ⟨(w8.heap.size + 1), 0, none⟩ = false := Bt25.out.frozen 0)
         go_must (have tf1 : (w15).frozen? ⟨(w8.heap.size + 1), 1, none⟩ = false := Bt25.out.frozen 1)
         go_must (have tf2 : (w15).frozen? ⟨(w8.heap.size + 1), 2, none⟩ = false := Bt25.out.frozen 2)
         go_must (have tf3 : (w15).frozen? ⟨(w8.heap.size + 1), 3, none⟩ = false := Bt25.out.frozen 3))
      | fail)
    all_goals
      go_wp2_with fail
      go_meet
      exact Lib.hid ⟨w15.heap.size, by omega, by omega, RT.out, CS26.out, Bt26.out⟩
  case rest =>
    rename World => w17
    obtain ⟨base, hb1, hb2, hk1, hk2, hk3⟩ := hcut.out
    clear hcut
    have CSz := Lib.hid hk2
    have Btz := Lib.hid hk3
    clear hk2 hk3
    obtain ⟨aT, cT, rfl⟩ := hk1.form
    obtain ⟨nT, hnT⟩ : ∃ z, ((thenN (oA ++ [insI 35 0, insI 39 ((nA : Int) + 2 + (nB : Int) + 1)]) oB)).length = z := ⟨_, rfl⟩
    rw [hnT] at hk1 ⊢
    have bT : nT ≤ 2100 := by rw [← hnT, thenN_len]; have := HNA.out; have := HNB.out; simp <;> omega
    have HNT := Lib.hid hnT
    have UT := Lib.hid hk1.block
    have RT := Lib.hid hk1
    clear hnT hk1
    clear e0 x0 x1 x2 x3 le lx k0 k1 y0 y1 y2 y3 ly yf0 yf1 yf2 yf3 t0 t1 t2 t3 lt tf0 tf1 tf2 tf3
    have e0 : (w17).cell? ⟨be, 0, none⟩ = some (.slice (some ⟨b, off, none⟩) nl lc) := CSz.out.eb.cell rfl
    have x0 : (w17).cell? ⟨bx, 0, none⟩ = some (.int .i64 (31 : Int)) := CSz.out.xb.cell rfl
    have x1 : (w17).cell? ⟨bx, 1, none⟩ = some (.string (txt s)) := CSz.out.xb.cell rfl
    have x2 : (w17).cell? ⟨bx, 2, none⟩ = some (.int .i64 n) := CSz.out.xb.cell rfl
    have x3 : (w17).cell? ⟨bx, 3, none⟩ = some (.slice (some ⟨kb, ko, none⟩) 2 kc) := CSz.out.xb.cell rfl
    have le : be < (w17).heap.size := Nat.lt_of_lt_of_le CSz.out.le CSz.out.lB
    have lx : bx < (w17).heap.size := Nat.lt_of_lt_of_le CSz.out.lx CSz.out.lB
    have k0 : (w17).cell? ⟨kb, ko, none⟩ = some (.int .i64 (qta : Int)) := rkid_cell (j := 0) HKV.out Eta.out (HH.out.hw.trans (CSz.out.bel.mono HH.out.hw.size))
    have k1 : (w17).cell? ⟨kb, ko + 1, none⟩ = some (.int .i64 (qtb : Int)) := rkid_cell (j := 1) HKV.out Etb.out (HH.out.hw.trans (CSz.out.bel.mono HH.out.hw.size))
    have t0 : (w17).cell? ⟨(w8.heap.size + 1), 0, none⟩ = some (.int .i64 40) := Btz.out.cell rfl
    have t1 : (w17).cell? ⟨(w8.heap.size + 1), 1, none⟩ = some (.int .i64 ((nA : Int) + 1)) := Btz.out.cell rfl
    have t2 : (w17).cell? ⟨(w8.heap.size + 1), 2, none⟩ = some (.int .i64 0) := Btz.out.cell rfl
    have t3 : (w17).cell? ⟨(w8.heap.size + 1), 3, none⟩ = some (.string ⟨#[]⟩) := Btz.out.cell rfl
    have lt : (w8.heap.size + 1) < (w17).heap.size := Btz.out.lt
    have tf0 : (w17).frozen? ⟨(w8.heap.size + 1), 0, none⟩ = false := Btz.out.frozen 0
    have tf1 : (w17).frozen? ⟨(w8.heap.size + 1), 1, none⟩ = false := Btz.out.frozen 1
    have tf2 : (w17).frozen? ⟨(w8.heap.size + 1), 2, none⟩ = false := Btz.out.frozen 2
    have tf3 : (w17).frozen? ⟨(w8.heap.size + 1), 3, none⟩ = false := Btz.out.frozen 3
    have tokR : True := trivial
    go_wp2_with (first
      | (have _t := tokR
         at_builtin
         go_must (refine wpList_append_list rfl (.tmp 193) (.tmp 195) _ (by rfl) base (w17.heap.size + 1) 46 jI _ 4 40 Tryd.underlying22 I.out.1 I.out.2.1 I.out.2.2.1 I.out.2.2.2 rfl (by omega) (R := Ins.Is) (l := (thenN (oA ++ [insI 35 0, insI 39 ((nA : Int) + 2 + (nB : Int) + 1)]) oB)) (m := [(insI 40 ((nA : Int) + 1))]) (.slice aT nT cT) (by rfl) (by exact (RT.out.alloc (.cells #[.int .i64 40, .int .i64 ((nA : Int) + 1), .int .i64 0, .string ⟨#[]⟩] 46))) (some ⟨w17.heap.size, 0, none⟩) 1 1 (by rfl) (SlR.new1 (w := w17) (e := 46) (g := w17.heap.size) rfl (x := [.int .i64 40, .int .i64 ((nA : Int) + 1), .int .i64 0, .string ⟨#[]⟩]) rfl (R := Ins.Is) (y := (insI 40 ((nA : Int) + 1))) ⟨rfl, ins_ok (by omega) (by omega) (by omega) (by omega) (by omega) (by omega) nil_size⟩) (nT + 1) (by rw [HNT.out]) Ins.Is.one (by have := HNT.out; unfold maxLen; simp <;> omega) (by have := HNT.out; simp <;> omega) (by simp <;> omega) ?_)
         clear tokR _t
         intro aT' cT' w18 hown hgr
         go_must (have CS11 := Lib.hid ((CSz.out.alloc (.cells #[.int .i64 40, .int .i64 ((nA : Int) + 1), .int .i64 0, .string ⟨#[]⟩] 46)).grown ((RT.out.alloc (.cells #[.int .i64 40, .int .i64 ((nA : Int) + 1), .int .i64 0, .string ⟨#[]⟩] 46)).mono (by have := CSz.out.lB; omega)) hgr))
         go_must (have RT11 := Lib.hid hown)
         go_must (have hsw18 : w17.heap.size < w18.heap.size := by have := hgr.size; simp at this; omega)
         clear hown hgr
         clear e0 x0 x1 x2 x3 le lx k0 k1 t0 t1 t2 t3 lt tf0 tf1 tf2 tf3
         go_must (have e0 : (w18).cell? ⟨be, 0, none⟩ = some (.slice (some ⟨b, off, none⟩) nl lc) := CS11.out.eb.cell rfl)
         go_must (have x0 : (w18).cell? ⟨bx, 0, none⟩ = some (.int .i64 (31 : Int)) := CS11.out.xb.cell rfl)
         go_must (have x1 : (w18).cell? ⟨bx, 1, none⟩ = some (.string (txt s)) := CS11.out.xb.cell rfl)
         go_must (have x2 : (w18).cell? ⟨bx, 2, none⟩ = some (.int .i64 n) := CS11.out.xb.cell rfl)
         go_must (have x3 : (w18).cell? ⟨bx, 3, none⟩ = some (.slice (some ⟨kb, ko, none⟩) 2 kc) := CS11.out.xb.cell rfl)
         go_must (have le : be < (w18).heap.size := Nat.lt_of_lt_of_le CS11.out.le CS11.out.lB)
         go_must (have lx : bx < (w18).heap.size := Nat.lt_of_lt_of_le CS11.out.lx CS11.out.lB)
         go_must (have k0 : (w18).cell? ⟨kb, ko, none⟩ = some (.int .i64 (qta : Int)) := rkid_cell (j := 0) HKV.out Eta.out (HH.out.hw.trans (CS11.out.bel.mono HH.out.hw.size)))
         go_must (have k1 : (w18).cell? ⟨kb, ko + 1, none⟩ = some (.int .i64 (qtb : Int)) := rkid_cell (j := 1) HKV.out Etb.out (HH.out.hw.trans (CS11.out.bel.mono HH.out.hw.size))))
      | fail)
    go_ret
    rw [HCR.out]
    rw [HNA.out, HNB.out]
    exact rcodeK_of (RT11.out.mono (by omega)) CS11.out.bel
set_option maxRecDepth 100000 in
set_option maxHeartbeats 8000000 in
theorem rcode_loop32 {l : List ND} {lv : Value} {W0 : World} {f p : Nat} {s : List Nat} {n m : Int} {ta tb : Tr} {vs : List (List Nat)} {W : World} (H : RPre l lv W0 (f + 1) (.node 32 s n [ta, tb]) p vs m W) (ih : RCodeIs l lv W0 f) : Calls Tryd.prog 30 #[.agg #[lv], .int .i64 (p : Int), .int .i64 m] W (RCodeK W (cR (f + 1) (.node 32 s n [ta, tb]) vs m)) := by
  obtain ⟨hd, hks⟩ := stands_node H.st
  obtain ⟨la, lc, rfl, _, _⟩ := H.hs.form
  have hpl := (List.getElem?_eq_some_iff.1 hd).1
  obtain ⟨nl, hnl⟩ : ∃ z, l.length = z := ⟨_, rfl⟩
  rw [hnl] at H hpl ⊢
  try rw [hnl] at ih
  have hB6 := H.hw.alloc H.hw.size (.cells #[.slice la nl lc] 38)
  have hhs := H.hs
  obtain ⟨b, off, x, rfl, hbB, hxl, ⟨kv, rfl, hkv⟩, hx⟩ := (hhs.below hB6).at_ hd
  obtain ⟨ka, kc, rfl, _, _⟩ := hkv.form
  simp only [List.length_map, places_len] at hkv hx
  simp only [List.length_cons, List.length_nil, Nat.zero_add, Nat.reduceAdd] at hkv hx
  have x0 := hx 0 _ rfl
  have x1 := hx 1 _ rfl
  have x2 := hx 2 _ rfl
  have x3 := hx 3 _ rfl
  simp only [Nat.add_zero] at x0
  have p0 : (0 : Int) ≤ (p : Int) := Int.natCast_nonneg _
  have p1 : (p : Int) < (nl : Int) := by omega
  have HH := Lib.hid H
  have HNL := Lib.hid hnl
  have HKV := Lib.hid hkv
  have m1 := H.m1
  have m2 : m ≤ 1000 := by have := H.mf; omega
  obtain ⟨jI, hi, hz, hsz, hby⟩ := info_parts info_Ins
  have I := Lib.hid (And.intro hi (And.intro hz (And.intro hsz hby)))
  clear hi hz hsz hby H hd hkv hx hxl hks hnl hhs hB6
  go_enter Tryd.func30, Tryd.ntmps30
  go_upto_region 1 with fail
  have e0 : (W.alloc (.cells #[(.slice (some ⟨b, off, none⟩) nl lc)] 38)).cell? ⟨W.heap.size, 0, none⟩ = some (.slice (some ⟨b, off, none⟩) nl lc) := (Blk.new W 38 #[(.slice (some ⟨b, off, none⟩) nl lc)]).cell rfl
  have lw0 : W.heap.size < (W.alloc (.cells #[(.slice (some ⟨b, off, none⟩) nl lc)] 38)).heap.size := (Blk.new W 38 #[(.slice (some ⟨b, off, none⟩) nl lc)]).lt
  generalize hW1 : W.alloc (.cells #[(.slice (some ⟨b, off, none⟩) nl lc)] 38) = W1 at *
  have HW1 := Lib.hid hW1
  clear hW1
  go_upto_region 4 with (first
    | (go_at_call 55; go_must (refine (rins_step _).mono ?_); rintro e w2 ⟨rfl, hb⟩; go_must (have HB := Lib.hid (CSt.make HW1.out.symm hb)); clear hb)
    | fail)
  clear x0 x1 x2 x3 e0 lw0
  have CS := Lib.hid (HB.out.alloc (.cells #[.int .i64 1, .int .i64 m, .int .i64 0, .string ⟨#[]⟩] 46))
  have SK := Lib.hid (Blk.new w2 46 #[.int .i64 1, .int .i64 m, .int .i64 0, .string ⟨#[]⟩])
  generalize hW3 : w2.alloc (.cells #[.int .i64 1, .int .i64 m, .int .i64 0, .string ⟨#[]⟩] 46) = W3 at *
  obtain ⟨be, hbe⟩ : ∃ z, W.heap.size = z := ⟨_, rfl⟩
  obtain ⟨bx, hbx⟩ : ∃ z, W1.heap.size = z := ⟨_, rfl⟩
  obtain ⟨bs, hbs⟩ : ∃ z, w2.heap.size = z := ⟨_, rfl⟩
  rw [hbe] at CS
  rw [hbx, hbs] at CS
  rw [hbs] at SK
  first | rw [hbe, hbx, hbs] | rw [hbx, hbe, hbs]
  clear HB hW3 hbx hbs HW1
  have e0 : (W3).cell? ⟨be, 0, none⟩ = some (.slice (some ⟨b, off, none⟩) nl lc) := CS.out.eb.cell rfl
  have x0 : (W3).cell? ⟨bx, 0, none⟩ = some (.int .i64 (32 : Int)) := CS.out.xb.cell rfl
  have x1 : (W3).cell? ⟨bx, 1, none⟩ = some (.string (txt s)) := CS.out.xb.cell rfl
  have x2 : (W3).cell? ⟨bx, 2, none⟩ = some (.int .i64 n) := CS.out.xb.cell rfl
  have x3 : (W3).cell? ⟨bx, 3, none⟩ = some (.slice ka 2 kc) := CS.out.xb.cell rfl
  have le : be < (W3).heap.size := Nat.lt_of_lt_of_le CS.out.le CS.out.lB
  have lx : bx < (W3).heap.size := Nat.lt_of_lt_of_le CS.out.lx CS.out.lB
  have HSZ : Hid (1 + sizeL [ta, tb] ≤ 256) := Lib.hid (by have h1 := stands_size HH.out.st; have h2 := HH.out.hl; have := HNL.out; simp only [Tr.size] at h1; omega)
  obtain ⟨qta, sta, uta, eta⟩ := rkid HH.out.st HH.out.un (j := 0) (a := ta) rfl
  rw [if_neg (by omega)] at uta
  have Sta := Lib.hid sta
  have Vta := Lib.hid uta
  have Eta := Lib.hid eta
  clear sta uta eta
  obtain ⟨qtb, stb, utb, etb⟩ := rkid HH.out.st HH.out.un (j := 1) (a := tb) rfl
  rw [if_pos (by omega)] at utb
  have Stb := Lib.hid stb
  have Vtb := Lib.hid utb
  have Etb := Lib.hid etb
  clear stb utb etb
  obtain ⟨kb, ko, rfl⟩ := kid_form HKV.out (stands_node HH.out.st).2 (j := 0) (t := ta) rfl
  have wr1 : IntKind.i64.wrap (m + 1) = m + 1 := by rw [IntKind.wrap_i64]; omega
  have hs0 : bs ≤ W3.heap.size := CS.out.lB
  have hwl : W.heap.size ≤ bs := CS.out.wl
  obtain ⟨oA, hoA⟩ : ∃ z, cR f ta vs (m + 1) = z := ⟨_, rfl⟩
  have HOA := Lib.hid hoA
  have OPSA : Hid (∀ y ∈ oA, (1 ≤ y.op ∧ y.op ≤ 40) ∧ -1000000 ≤ y.arg ∧ y.arg ≤ 1000000) := Lib.hid (by rw [← hoA]; exact rcode_ops HH.out (j := 0) rfl (by simp) (by omega) (by omega))
  clear hoA
  obtain ⟨oB, hoB⟩ : ∃ z, cR f tb (vs ++ [s]) (1) = z := ⟨_, rfl⟩
  have HOB := Lib.hid hoB
  have OPSB : Hid (∀ y ∈ oB, (1 ≤ y.op ∧ y.op ≤ 40) ∧ -1000000 ≤ y.arg ∧ y.arg ≤ 1000000) := Lib.hid (by rw [← hoB]; exact rcode_ops HH.out (j := 1) rfl (by simp) (by omega) (by omega))
  clear hoB
  have hcr : cR (f + 1) (.node 32 s n [ta, tb]) vs m = thenN (oA ++ [insI 36 0, insI 39 ((oA.length : Int) + 2 + (oB.length : Int) + 1)]) oB ++ [insI 40 ((oA.length : Int) + 1)] := by rw [← HOA.out, ← HOB.out]; simp only [cR]; rw [if_neg (by decide), if_pos (by decide)]; rfl
  have HCR := Lib.hid hcr
  clear hcr
  have LK : Hid (∀ w, Calls Tryd.prog 59 #[.int .i64 32] w fun e w' => e = .returned (.bool true) ∧ Quiet w w') := Lib.hid (fun w => rloop_any 32 w)
  have WK : Hid (∀ w, Calls Tryd.prog 56 #[.int .i64 32] w fun e w' => e = .returned (.string (wordK 32)) ∧ Quiet w w') := Lib.hid (fun w => rkind_any 32 (by omega) w)
  have hop : opR (wordK 32) = 36 := opR_wordK (by omega)
  obtain ⟨wk, hwk⟩ : ∃ z, wordK 32 = z := ⟨_, rfl⟩
  rw [hwk] at WK hop
  have IK := Lib.hid (rins_any wk)
  rw [hop] at IK
  clear hwk hop
  clear e0 x0 x1 x2 x3 le lx
  have e0 : (W3).cell? ⟨be, 0, none⟩ = some (.slice (some ⟨b, off, none⟩) nl lc) := CS.out.eb.cell rfl
  have x0 : (W3).cell? ⟨bx, 0, none⟩ = some (.int .i64 (32 : Int)) := CS.out.xb.cell rfl
  have x1 : (W3).cell? ⟨bx, 1, none⟩ = some (.string (txt s)) := CS.out.xb.cell rfl
  have x2 : (W3).cell? ⟨bx, 2, none⟩ = some (.int .i64 n) := CS.out.xb.cell rfl
  have x3 : (W3).cell? ⟨bx, 3, none⟩ = some (.slice (some ⟨kb, ko, none⟩) 2 kc) := CS.out.xb.cell rfl
  have le : be < (W3).heap.size := Nat.lt_of_lt_of_le CS.out.le CS.out.lB
  have lx : bx < (W3).heap.size := Nat.lt_of_lt_of_le CS.out.lx CS.out.lB
  have k0 : (W3).cell? ⟨kb, ko, none⟩ = some (.int .i64 (qta : Int)) := rkid_cell (j := 0) HKV.out Eta.out (HH.out.hw.trans (CS.out.bel.mono HH.out.hw.size))
  have k1 : (W3).cell? ⟨kb, ko + 1, none⟩ = some (.int .i64 (qtb : Int)) := rkid_cell (j := 1) HKV.out Etb.out (HH.out.hw.trans (CS.out.bel.mono HH.out.hw.size))
  go_upto_region 20 with fail
  go_still_tail 7, (by kernel_rfl)
  change wpList _ _ _ _ _ W3.drew
  have CS1 := Lib.hid (CS.out.drew)
  have hsW4 : W3.heap.size ≤ W3.drew.heap.size := Nat.le_refl _
  generalize W3.drew = W4 at *
  clear e0 x0 x1 x2 x3 le lx k0 k1
  have e0 : (W4).cell? ⟨be, 0, none⟩ = some (.slice (some ⟨b, off, none⟩) nl lc) := CS1.out.eb.cell rfl
  have x0 : (W4).cell? ⟨bx, 0, none⟩ = some (.int .i64 (32 : Int)) := CS1.out.xb.cell rfl
  have x1 : (W4).cell? ⟨bx, 1, none⟩ = some (.string (txt s)) := CS1.out.xb.cell rfl
  have x2 : (W4).cell? ⟨bx, 2, none⟩ = some (.int .i64 n) := CS1.out.xb.cell rfl
  have x3 : (W4).cell? ⟨bx, 3, none⟩ = some (.slice (some ⟨kb, ko, none⟩) 2 kc) := CS1.out.xb.cell rfl
  have le : be < (W4).heap.size := Nat.lt_of_lt_of_le CS1.out.le CS1.out.lB
  have lx : bx < (W4).heap.size := Nat.lt_of_lt_of_le CS1.out.lx CS1.out.lB
  have k0 : (W4).cell? ⟨kb, ko, none⟩ = some (.int .i64 (qta : Int)) := rkid_cell (j := 0) HKV.out Eta.out (HH.out.hw.trans (CS1.out.bel.mono HH.out.hw.size))
  have k1 : (W4).cell? ⟨kb, ko + 1, none⟩ = some (.int .i64 (qtb : Int)) := rkid_cell (j := 1) HKV.out Etb.out (HH.out.hw.trans (CS1.out.bel.mono HH.out.hw.size))
  have tokA : True := trivial
  have tokL : True := trivial
  go_upto_region 38 with (first
    | (have _t := tokA; go_at_call 30; go_must (refine (ih ta qta vs (m + 1) _ (RPre.kid (j := 0) HH.out rfl Sta.out Vta.out (by simp) (by omega) (by omega) CS1.out.bel)).mono ?_); clear tokA _t
       rintro e w5 ⟨ov, rfl, hk1, hk2⟩
       go_must (have CS2 := Lib.hid (CS1.out.call hk2))
       rw [HOA.out] at hk1
       go_must (have hsw5 := hk2.size)
       obtain ⟨aA, cA, rfl⟩ := hk1.form
       obtain ⟨nA, hnA⟩ : ∃ z, (oA).length = z := ⟨_, rfl⟩
       rw [hnA] at hk1 ⊢
       go_must (have bA : nA ≤ 1024 := by rw [← hnA, ← HOA.out]; have := cR_len f ta vs (m + 1); have := HSZ.out; simp only [sizeL] at this; omega)
       go_must (have HNA := Lib.hid hnA)
       go_must (have UA := Lib.hid hk1.block)
       go_must (have RA := Lib.hid hk1)
       clear hnA hk1
       clear hk2
       clear e0 x0 x1 x2 x3 le lx k0 k1
       go_must (have e0 : (w5).cell? ⟨be, 0, none⟩ = some (.slice (some ⟨b, off, none⟩) nl lc) := CS2.out.eb.cell rfl)
       go_must (have x0 : (w5).cell? ⟨bx, 0, none⟩ = some (.int .i64 (32 : Int)) := CS2.out.xb.cell rfl)
       go_must (have x1 : (w5).cell? ⟨bx, 1, none⟩ = some (.string (txt s)) := CS2.out.xb.cell rfl)
       go_must (have x2 : (w5).cell? ⟨bx, 2, none⟩ = some (.int .i64 n) := CS2.out.xb.cell rfl)
       go_must (have x3 : (w5).cell? ⟨bx, 3, none⟩ = some (.slice (some ⟨kb, ko, none⟩) 2 kc) := CS2.out.xb.cell rfl)
       go_must (have le : be < (w5).heap.size := Nat.lt_of_lt_of_le CS2.out.le CS2.out.lB)
       go_must (have lx : bx < (w5).heap.size := Nat.lt_of_lt_of_le CS2.out.lx CS2.out.lB)
       go_must (have k0 : (w5).cell? ⟨kb, ko, none⟩ = some (.int .i64 (qta : Int)) := rkid_cell (j := 0) HKV.out Eta.out (HH.out.hw.trans (CS2.out.bel.mono HH.out.hw.size)))
       go_must (have k1 : (w5).cell? ⟨kb, ko + 1, none⟩ = some (.int .i64 (qtb : Int)) := rkid_cell (j := 1) HKV.out Etb.out (HH.out.hw.trans (CS2.out.bel.mono HH.out.hw.size))))
    | (have _t := tokL; go_at_call 59; go_must (refine (LK.out _).mono ?_); clear tokL _t
       rintro e w' ⟨rfl, nq, rfl⟩
       go_must (have CS3 := Lib.hid (CS2.out.drewN nq))
       go_must (have RA3 := Lib.hid (RA.out.drewN nq))
       go_must (have hsw5q : w5.heap.size ≤ (w5.drewN nq).heap.size := Nat.le_refl _)
       clear e0 x0 x1 x2 x3 le lx k0 k1
       go_must (have e0 : ((w5.drewN nq)).cell? ⟨be, 0, none⟩ = some (.slice (some ⟨b, off, none⟩) nl lc) := CS3.out.eb.cell rfl)
       go_must (have x0 : ((w5.drewN nq)).cell? ⟨bx, 0, none⟩ = some (.int .i64 (32 : Int)) := CS3.out.xb.cell rfl)
       go_must (have x1 : ((w5.drewN nq)).cell? ⟨bx, 1, none⟩ = some (.string (txt s)) := CS3.out.xb.cell rfl)
       go_must (have x2 : ((w5.drewN nq)).cell? ⟨bx, 2, none⟩ = some (.int .i64 n) := CS3.out.xb.cell rfl)
       go_must (have x3 : ((w5.drewN nq)).cell? ⟨bx, 3, none⟩ = some (.slice (some ⟨kb, ko, none⟩) 2 kc) := CS3.out.xb.cell rfl)
       go_must (have le : be < ((w5.drewN nq)).heap.size := Nat.lt_of_lt_of_le CS3.out.le CS3.out.lB)
       go_must (have lx : bx < ((w5.drewN nq)).heap.size := Nat.lt_of_lt_of_le CS3.out.lx CS3.out.lB)
       go_must (have k0 : ((w5.drewN nq)).cell? ⟨kb, ko, none⟩ = some (.int .i64 (qta : Int)) := rkid_cell (j := 0) HKV.out Eta.out (HH.out.hw.trans (CS3.out.bel.mono HH.out.hw.size)))
       go_must (have k1 : ((w5.drewN nq)).cell? ⟨kb, ko + 1, none⟩ = some (.int .i64 (qtb : Int)) := rkid_cell (j := 1) HKV.out Etb.out (HH.out.hw.trans (CS3.out.bel.mono HH.out.hw.size))))
    | fail)
  generalize (w5.drewN nq) = W6 at *
  have tokY : True := trivial
  have tokJ : True := trivial
  go_upto_region 39 with (first
    | (have _t := tokY; go_at_call 55; go_must (refine (rins_next _).mono ?_); clear tokY _t
       rintro e w7 ⟨rfl, hb⟩
       go_must (have CS4 := Lib.hid (CS3.out.call hb))
       go_must (have RA4 := Lib.hid (RA3.out.below hb (Nat.le_refl _)))
       go_must (have hsw7 := hb.size)
       clear hb
       clear e0 x0 x1 x2 x3 le lx k0 k1
       go_must (have e0 : (w7).cell? ⟨be, 0, none⟩ = some (.slice (some ⟨b, off, none⟩) nl lc) := CS4.out.eb.cell rfl)
       go_must (have x0 : (w7).cell? ⟨bx, 0, none⟩ = some (.int .i64 (32 : Int)) := CS4.out.xb.cell rfl)
       go_must (have x1 : (w7).cell? ⟨bx, 1, none⟩ = some (.string (txt s)) := CS4.out.xb.cell rfl)
       go_must (have x2 : (w7).cell? ⟨bx, 2, none⟩ = some (.int .i64 n) := CS4.out.xb.cell rfl)
       go_must (have x3 : (w7).cell? ⟨bx, 3, none⟩ = some (.slice (some ⟨kb, ko, none⟩) 2 kc) := CS4.out.xb.cell rfl)
       go_must (have le : be < (w7).heap.size := Nat.lt_of_lt_of_le CS4.out.le CS4.out.lB)
       go_must (have lx : bx < (w7).heap.size := Nat.lt_of_lt_of_le CS4.out.lx CS4.out.lB)
       go_must (have k0 : (w7).cell? ⟨kb, ko, none⟩ = some (.int .i64 (qta : Int)) := rkid_cell (j := 0) HKV.out Eta.out (HH.out.hw.trans (CS4.out.bel.mono HH.out.hw.size)))
       go_must (have k1 : (w7).cell? ⟨kb, ko + 1, none⟩ = some (.int .i64 (qtb : Int)) := rkid_cell (j := 1) HKV.out Etb.out (HH.out.hw.trans (CS4.out.bel.mono HH.out.hw.size))))
    | (have _t := tokJ; go_at_call 55; go_must (refine (rins_take _).mono ?_); clear tokJ _t
       rintro e w8 ⟨rfl, hb⟩
       go_must (have CS5 := Lib.hid (CS4.out.call hb))
       go_must (have RA5 := Lib.hid (RA4.out.below hb (Nat.le_refl _)))
       go_must (have hsw8 := hb.size)
       clear hb
       clear e0 x0 x1 x2 x3 le lx k0 k1
       go_must (have e0 : (w8).cell? ⟨be, 0, none⟩ = some (.slice (some ⟨b, off, none⟩) nl lc) := CS5.out.eb.cell rfl)
       go_must (have x0 : (w8).cell? ⟨bx, 0, none⟩ = some (.int .i64 (32 : Int)) := CS5.out.xb.cell rfl)
       go_must (have x1 : (w8).cell? ⟨bx, 1, none⟩ = some (.string (txt s)) := CS5.out.xb.cell rfl)
       go_must (have x2 : (w8).cell? ⟨bx, 2, none⟩ = some (.int .i64 n) := CS5.out.xb.cell rfl)
       go_must (have x3 : (w8).cell? ⟨bx, 3, none⟩ = some (.slice (some ⟨kb, ko, none⟩) 2 kc) := CS5.out.xb.cell rfl)
       go_must (have le : be < (w8).heap.size := Nat.lt_of_lt_of_le CS5.out.le CS5.out.lB)
       go_must (have lx : bx < (w8).heap.size := Nat.lt_of_lt_of_le CS5.out.lx CS5.out.lB)
       go_must (have k0 : (w8).cell? ⟨kb, ko, none⟩ = some (.int .i64 (qta : Int)) := rkid_cell (j := 0) HKV.out Eta.out (HH.out.hw.trans (CS5.out.bel.mono HH.out.hw.size)))
       go_must (have k1 : (w8).cell? ⟨kb, ko + 1, none⟩ = some (.int .i64 (qtb : Int)) := rkid_cell (j := 1) HKV.out Etb.out (HH.out.hw.trans (CS5.out.bel.mono HH.out.hw.size))))
    | fail)
  have CS6 := Lib.hid ((CS5.out.alloc (.cells #[.int .i64 39, .int .i64 0, .int .i64 0, .string ⟨#[]⟩] 46)).alloc (.cells #[.int .i64 40, .int .i64 0, .int .i64 0, .string ⟨#[]⟩] 46))
  have RA6 := Lib.hid ((RA5.out.alloc (.cells #[.int .i64 39, .int .i64 0, .int .i64 0, .string ⟨#[]⟩] 46)).alloc (.cells #[.int .i64 40, .int .i64 0, .int .i64 0, .string ⟨#[]⟩] 46))
  have By := Lib.hid ((Blk.new w8 46 #[.int .i64 39, .int .i64 0, .int .i64 0, .string ⟨#[]⟩]).alloc (.cells #[.int .i64 40, .int .i64 0, .int .i64 0, .string ⟨#[]⟩] 46))
  have Bt := Lib.hid (Blk.new_ (w := w8.alloc (.cells #[.int .i64 39, .int .i64 0, .int .i64 0, .string ⟨#[]⟩] 46)) (g := w8.heap.size + 1) (by simp) 46 #[.int .i64 40, .int .i64 0, .int .i64 0, .string ⟨#[]⟩])
  have hsW9 : w8.heap.size + 1 < ((w8.alloc (.cells #[.int .i64 39, .int .i64 0, .int .i64 0, .string ⟨#[]⟩] 46)).alloc (.cells #[.int .i64 40, .int .i64 0, .int .i64 0, .string ⟨#[]⟩] 46)).heap.size := by simp
  generalize (w8.alloc (.cells #[.int .i64 39, .int .i64 0, .int .i64 0, .string ⟨#[]⟩] 46)).alloc (.cells #[.int .i64 40, .int .i64 0, .int .i64 0, .string ⟨#[]⟩] 46) = W9 at *
  clear e0 x0 x1 x2 x3 le lx k0 k1
  have e0 : (W9).cell? ⟨be, 0, none⟩ = some (.slice (some ⟨b, off, none⟩) nl lc) := CS6.out.eb.cell rfl
  have x0 : (W9).cell? ⟨bx, 0, none⟩ = some (.int .i64 (32 : Int)) := CS6.out.xb.cell rfl
  have x1 : (W9).cell? ⟨bx, 1, none⟩ = some (.string (txt s)) := CS6.out.xb.cell rfl
  have x2 : (W9).cell? ⟨bx, 2, none⟩ = some (.int .i64 n) := CS6.out.xb.cell rfl
  have x3 : (W9).cell? ⟨bx, 3, none⟩ = some (.slice (some ⟨kb, ko, none⟩) 2 kc) := CS6.out.xb.cell rfl
  have le : be < (W9).heap.size := Nat.lt_of_lt_of_le CS6.out.le CS6.out.lB
  have lx : bx < (W9).heap.size := Nat.lt_of_lt_of_le CS6.out.lx CS6.out.lB
  have k0 : (W9).cell? ⟨kb, ko, none⟩ = some (.int .i64 (qta : Int)) := rkid_cell (j := 0) HKV.out Eta.out (HH.out.hw.trans (CS6.out.bel.mono HH.out.hw.size))
  have k1 : (W9).cell? ⟨kb, ko + 1, none⟩ = some (.int .i64 (qtb : Int)) := rkid_cell (j := 1) HKV.out Etb.out (HH.out.hw.trans (CS6.out.bel.mono HH.out.hw.size))
  have y0 : (W9).cell? ⟨w8.heap.size, 0, none⟩ = some (.int .i64 39) := By.out.cell rfl
  have y1 : (W9).cell? ⟨w8.heap.size, 1, none⟩ = some (.int .i64 0) := By.out.cell rfl
  have y2 : (W9).cell? ⟨w8.heap.size, 2, none⟩ = some (.int .i64 0) := By.out.cell rfl
  have y3 : (W9).cell? ⟨w8.heap.size, 3, none⟩ = some (.string ⟨#[]⟩) := By.out.cell rfl
  have ly : w8.heap.size < (W9).heap.size := By.out.lt
  have yf0 : (W9).frozen? ⟨w8.heap.size, 0, none⟩ = false := By.out.frozen 0
  have yf1 : (W9).frozen? ⟨w8.heap.size, 1, none⟩ = false := By.out.frozen 1
  have yf2 : (W9).frozen? ⟨w8.heap.size, 2, none⟩ = false := By.out.frozen 2
  have yf3 : (W9).frozen? ⟨w8.heap.size, 3, none⟩ = false := By.out.frozen 3
  have t0 : (W9).cell? ⟨(w8.heap.size + 1), 0, none⟩ = some (.int .i64 40) := Bt.out.cell rfl
  have t1 : (W9).cell? ⟨(w8.heap.size + 1), 1, none⟩ = some (.int .i64 0) := Bt.out.cell rfl
  have t2 : (W9).cell? ⟨(w8.heap.size + 1), 2, none⟩ = some (.int .i64 0) := Bt.out.cell rfl
  have t3 : (W9).cell? ⟨(w8.heap.size + 1), 3, none⟩ = some (.string ⟨#[]⟩) := Bt.out.cell rfl
  have lt : (w8.heap.size + 1) < (W9).heap.size := Bt.out.lt
  have tf0 : (W9).frozen? ⟨(w8.heap.size + 1), 0, none⟩ = false := Bt.out.frozen 0
  have tf1 : (W9).frozen? ⟨(w8.heap.size + 1), 1, none⟩ = false := Bt.out.frozen 1
  have tf2 : (W9).frozen? ⟨(w8.heap.size + 1), 2, none⟩ = false := Bt.out.frozen 2
  have tf3 : (W9).frozen? ⟨(w8.heap.size + 1), 3, none⟩ = false := Bt.out.frozen 3
  go_still_tail 5, (by kernel_rfl)
  change wpList _ _ _ _ _ W9.drew
  have CS7 := Lib.hid (CS6.out.drew)
  have RA7 := Lib.hid (RA6.out.drew)
  have By7 := Lib.hid (By.out.drwC)
  have Bt7 := Lib.hid (Bt.out.drwC)
  have hsW10 : W9.heap.size ≤ W9.drew.heap.size := Nat.le_refl _
  generalize W9.drew = W10 at *
  clear e0 x0 x1 x2 x3 le lx k0 k1 y0 y1 y2 y3 ly yf0 yf1 yf2 yf3 t0 t1 t2 t3 lt tf0 tf1 tf2 tf3
  have e0 : (W10).cell? ⟨be, 0, none⟩ = some (.slice (some ⟨b, off, none⟩) nl lc) := CS7.out.eb.cell rfl
  have x0 : (W10).cell? ⟨bx, 0, none⟩ = some (.int .i64 (32 : Int)) := CS7.out.xb.cell rfl
  have x1 : (W10).cell? ⟨bx, 1, none⟩ = some (.string (txt s)) := CS7.out.xb.cell rfl
  have x2 : (W10).cell? ⟨bx, 2, none⟩ = some (.int .i64 n) := CS7.out.xb.cell rfl
  have x3 : (W10).cell? ⟨bx, 3, none⟩ = some (.slice (some ⟨kb, ko, none⟩) 2 kc) := CS7.out.xb.cell rfl
  have le : be < (W10).heap.size := Nat.lt_of_lt_of_le CS7.out.le CS7.out.lB
  have lx : bx < (W10).heap.size := Nat.lt_of_lt_of_le CS7.out.lx CS7.out.lB
  have k0 : (W10).cell? ⟨kb, ko, none⟩ = some (.int .i64 (qta : Int)) := rkid_cell (j := 0) HKV.out Eta.out (HH.out.hw.trans (CS7.out.bel.mono HH.out.hw.size))
  have k1 : (W10).cell? ⟨kb, ko + 1, none⟩ = some (.int .i64 (qtb : Int)) := rkid_cell (j := 1) HKV.out Etb.out (HH.out.hw.trans (CS7.out.bel.mono HH.out.hw.size))
  have y0 : (W10).cell? ⟨w8.heap.size, 0, none⟩ = some (.int .i64 39) := By7.out.cell rfl
  have y1 : (W10).cell? ⟨w8.heap.size, 1, none⟩ = some (.int .i64 0) := By7.out.cell rfl
  have y2 : (W10).cell? ⟨w8.heap.size, 2, none⟩ = some (.int .i64 0) := By7.out.cell rfl
  have y3 : (W10).cell? ⟨w8.heap.size, 3, none⟩ = some (.string ⟨#[]⟩) := By7.out.cell rfl
  have ly : w8.heap.size < (W10).heap.size := By7.out.lt
  have yf0 : (W10).frozen? ⟨w8.heap.size, 0, none⟩ = false := By7.out.frozen 0
  have yf1 : (W10).frozen? ⟨w8.heap.size, 1, none⟩ = false := By7.out.frozen 1
  have yf2 : (W10).frozen? ⟨w8.heap.size, 2, none⟩ = false := By7.out.frozen 2
  have yf3 : (W10).frozen? ⟨w8.heap.size, 3, none⟩ = false := By7.out.frozen 3
  have t0 : (W10).cell? ⟨(w8.heap.size + 1), 0, none⟩ = some (.int .i64 40) := Bt7.out.cell rfl
  have t1 : (W10).cell? ⟨(w8.heap.size + 1), 1, none⟩ = some (.int .i64 0) := Bt7.out.cell rfl
  have t2 : (W10).cell? ⟨(w8.heap.size + 1), 2, none⟩ = some (.int .i64 0) := Bt7.out.cell rfl
  have t3 : (W10).cell? ⟨(w8.heap.size + 1), 3, none⟩ = some (.string ⟨#[]⟩) := Bt7.out.cell rfl
  have lt : (w8.heap.size + 1) < (W10).heap.size := Bt7.out.lt
  have tf0 : (W10).frozen? ⟨(w8.heap.size + 1), 0, none⟩ = false := Bt7.out.frozen 0
  have tf1 : (W10).frozen? ⟨(w8.heap.size + 1), 1, none⟩ = false := Bt7.out.frozen 1
  have tf2 : (W10).frozen? ⟨(w8.heap.size + 1), 2, none⟩ = false := Bt7.out.frozen 2
  have tf3 : (W10).frozen? ⟨(w8.heap.size + 1), 3, none⟩ = false := Bt7.out.frozen 3
  have tokB : True := trivial
  go_upto_region 40 with (first
    | (have _t := tokB; go_at_call 30; go_must (refine (ih tb qtb (vs ++ [s]) (1) _ (RPre.kid (j := 1) HH.out rfl Stb.out Vtb.out (by simp) (by omega) (by omega) CS7.out.bel)).mono ?_); clear tokB _t
       rintro e w11 ⟨ov, rfl, hk1, hk2⟩
       go_must (have CS8 := Lib.hid (CS7.out.call hk2))
       rw [HOB.out] at hk1
       go_must (have RA8 := Lib.hid (RA7.out.below hk2 (Nat.le_refl _)))
       go_must (have By8 := Lib.hid (By7.out.below hk2 By7.out.lt))
       go_must (have Bt8 := Lib.hid (Bt7.out.below hk2 Bt7.out.lt))
       go_must (have hsw11 := hk2.size)
       obtain ⟨aB, cB, rfl⟩ := hk1.form
       obtain ⟨nB, hnB⟩ : ∃ z, (oB).length = z := ⟨_, rfl⟩
       rw [hnB] at hk1 ⊢
       go_must (have bB : nB ≤ 1024 := by rw [← hnB, ← HOB.out]; have := cR_len f tb (vs ++ [s]) (1); have := HSZ.out; simp only [sizeL] at this; omega)
       go_must (have HNB := Lib.hid hnB)
       go_must (have UB := Lib.hid hk1.block)
       go_must (have RB := Lib.hid hk1)
       clear hnB hk1
       clear hk2
       clear e0 x0 x1 x2 x3 le lx k0 k1 y0 y1 y2 y3 ly yf0 yf1 yf2 yf3 t0 t1 t2 t3 lt tf0 tf1 tf2 tf3
       go_must (have e0 : (w11).cell? ⟨be, 0, none⟩ = some (.slice (some ⟨b, off, none⟩) nl lc) := CS8.out.eb.cell rfl)
       go_must (have x0 : (w11).cell? ⟨bx, 0, none⟩ = some (.int .i64 (32 : Int)) := CS8.out.xb.cell rfl)
       go_must (have x1 : (w11).cell? ⟨bx, 1, none⟩ = some (.string (txt s)) := CS8.out.xb.cell rfl)
       go_must (have x2 : (w11).cell? ⟨bx, 2, none⟩ = some (.int .i64 n) := CS8.out.xb.cell rfl)
       go_must (have x3 : (w11).cell? ⟨bx, 3, none⟩ = some (.slice (some ⟨kb, ko, none⟩) 2 kc) := CS8.out.xb.cell rfl)
       go_must (have le : be < (w11).heap.size := Nat.lt_of_lt_of_le CS8.out.le CS8.out.lB)
       go_must (have lx : bx < (w11).heap.size := Nat.lt_of_lt_of_le CS8.out.lx CS8.out.lB)
       go_must (have k0 : (w11).cell? ⟨kb, ko, none⟩ = some (.int .i64 (qta : Int)) := rkid_cell (j := 0) HKV.out Eta.out (HH.out.hw.trans (CS8.out.bel.mono HH.out.hw.size)))
       go_must (have k1 : (w11).cell? ⟨kb, ko + 1, none⟩ = some (.int .i64 (qtb : Int)) := rkid_cell (j := 1) HKV.out Etb.out (HH.out.hw.trans (CS8.out.bel.mono HH.out.hw.size)))
       go_must (have y0 : (w11).cell? ⟨w8.heap.size, 0, none⟩ = some (.int .i64 39) := By8.out.cell rfl)
       go_must (have y1 : (w11).cell? ⟨w8.heap.size, 1, none⟩ = some (.int .i64 0) := By8.out.cell rfl)
       go_must (have y2 : (w11).cell? ⟨w8.heap.size, 2, none⟩ = some (.int .i64 0) := By8.out.cell rfl)
       go_must (have y3 : (w11).cell? ⟨w8.heap.size, 3, none⟩ = some (.string ⟨#[]⟩) := By8.out.cell rfl)
       go_must (have ly : w8.heap.size < (w11).heap.size := By8.out.lt)
       go_must (have yf0 : (w11).frozen? ⟨w8.heap.size, 0, none⟩ = false := By8.out.frozen 0)
       go_must (have yf1 : (w11).frozen? ⟨w8.heap.size, 1, none⟩ = false := By8.out.frozen 1)
       go_must (have yf2 : (w11).frozen? ⟨w8.heap.size, 2, none⟩ = false := By8.out.frozen 2)
       go_must (have yf3 : (w11).frozen? ⟨w8.heap.size, 3, none⟩ = false := By8.out.frozen 3)
       go_must (have t0 : (w11).cell? ⟨(w8.heap.size + 1), 0, none⟩ = some (.int .i64 40) := Bt8.out.cell rfl)
       go_must (have t1 : (w11).cell? ⟨(w8.heap.size + 1), 1, none⟩ = some (.int .i64 0) := Bt8.out.cell rfl)
       go_must (have t2 : (w11).cell? ⟨(w8.heap.size + 1), 2, none⟩ = some (.int .i64 0) := Bt8.out.cell rfl)
       go_must (have t3 : (w11).cell? ⟨(w8.heap.size + 1), 3, none⟩ = some (.string ⟨#[]⟩) := Bt8.out.cell rfl)
       go_must (have lt : (w8.heap.size + 1) < (w11).heap.size := Bt8.out.lt)
       go_must (have tf0 : (w11).frozen? ⟨(w8.heap.size + 1), 0, none⟩ = false := Bt8.out.frozen 0)
       go_must (have tf1 : (w11).frozen? ⟨(w8.heap.size + 1), 1, none⟩ = false := Bt8.out.frozen 1)
       go_must (have tf2 : (w11).frozen? ⟨(w8.heap.size + 1), 2, none⟩ = false := Bt8.out.frozen 2)
       go_must (have tf3 : (w11).frozen? ⟨(w8.heap.size + 1), 3, none⟩ = false := Bt8.out.frozen 3))
    | fail)
  go_upto_region 41 with fail
  generalize hW12 : World.setCell _ _ _ = W12
  have CS9 : Hid (CSt W W12 (.slice (some ⟨b, off, none⟩) nl lc) be bx #[.int .i64 (32 : Int), .string (txt s), .int .i64 n, .slice (some ⟨kb, ko, none⟩) 2 kc] bs) := Lib.hid (by rw [← hW12]; exact (CS8.out.set_ (g := (w8.heap.size + 1)) (by omega) _ _))
  have RA9 : Hid (Own1 W12 W4.heap.size 46 4 Ins.Is (.slice aA nA cA) oA) := Lib.hid (by rw [← hW12]; exact (RA8.out.setOther (p := ⟨(w8.heap.size + 1), 1, none⟩) (fun e => by have := UA.out ((w8.heap.size + 1)) e; omega) _))
  have RB9 : Hid (Own1 W12 W10.heap.size 46 4 Ins.Is (.slice aB nB cB) oB) := Lib.hid (by rw [← hW12]; exact (RB.out.setOther (p := ⟨(w8.heap.size + 1), 1, none⟩) (fun e => by have := UB.out ((w8.heap.size + 1)) e; omega) _))
  have By9 : Hid (Blk W12 w8.heap.size 46 #[.int .i64 39, .int .i64 0, .int .i64 0, .string ⟨#[]⟩]) := Lib.hid (by rw [← hW12]; exact (By8.out.far (p := ⟨(w8.heap.size + 1), 1, none⟩) (by show _ ≠ (w8.heap.size + 1); omega) _))
  have Bt9 : Hid (Blk W12 (w8.heap.size + 1) 46 #[.int .i64 40, .int .i64 ((nA : Int) + 1), .int .i64 0, .string ⟨#[]⟩]) := Lib.hid (by rw [← hW12]; have := (Bt8.out.set_ 1 (.int .i64 ((nA : Int) + 1))); simpa using this)
  have hsW12 : w11.heap.size ≤ W12.heap.size := by rw [← hW12]; simp
  clear hW12
  clear e0 x0 x1 x2 x3 le lx k0 k1 y0 y1 y2 y3 ly yf0 yf1 yf2 yf3 t0 t1 t2 t3 lt tf0 tf1 tf2 tf3
  have e0 : (W12).cell? ⟨be, 0, none⟩ = some (.slice (some ⟨b, off, none⟩) nl lc) := CS9.out.eb.cell rfl
  have x0 : (W12).cell? ⟨bx, 0, none⟩ = some (.int .i64 (32 : Int)) := CS9.out.xb.cell rfl
  have x1 : (W12).cell? ⟨bx, 1, none⟩ = some (.string (txt s)) := CS9.out.xb.cell rfl
  have x2 : (W12).cell? ⟨bx, 2, none⟩ = some (.int .i64 n) := CS9.out.xb.cell rfl
  have x3 : (W12).cell? ⟨bx, 3, none⟩ = some (.slice (some ⟨kb, ko, none⟩) 2 kc) := CS9.out.xb.cell rfl
  have le : be < (W12).heap.size := Nat.lt_of_lt_of_le CS9.out.le CS9.out.lB
  have lx : bx < (W12).heap.size := Nat.lt_of_lt_of_le CS9.out.lx CS9.out.lB
  have k0 : (W12).cell? ⟨kb, ko, none⟩ = some (.int .i64 (qta : Int)) := rkid_cell (j := 0) HKV.out Eta.out (HH.out.hw.trans (CS9.out.bel.mono HH.out.hw.size))
  have k1 : (W12).cell? ⟨kb, ko + 1, none⟩ = some (.int .i64 (qtb : Int)) := rkid_cell (j := 1) HKV.out Etb.out (HH.out.hw.trans (CS9.out.bel.mono HH.out.hw.size))
  have y0 : (W12).cell? ⟨w8.heap.size, 0, none⟩ = some (.int .i64 39) := By9.out.cell rfl
  have y1 : (W12).cell? ⟨w8.heap.size, 1, none⟩ = some (.int .i64 0) := By9.out.cell rfl
  have y2 : (W12).cell? ⟨w8.heap.size, 2, none⟩ = some (.int .i64 0) := By9.out.cell rfl
  have y3 : (W12).cell? ⟨w8.heap.size, 3, none⟩ = some (.string ⟨#[]⟩) := By9.out.cell rfl
  have ly : w8.heap.size < (W12).heap.size := By9.out.lt
  have yf0 : (W12).frozen? ⟨w8.heap.size, 0, none⟩ = false := By9.out.frozen 0
  have yf1 : (W12).frozen? ⟨w8.heap.size, 1, none⟩ = false := By9.out.frozen 1
  have yf2 : (W12).frozen? ⟨w8.heap.size, 2, none⟩ = false := By9.out.frozen 2
  have yf3 : (W12).frozen? ⟨w8.heap.size, 3, none⟩ = false := By9.out.frozen 3
  have t0 : (W12).cell? ⟨(w8.heap.size + 1), 0, none⟩ = some (.int .i64 40) := Bt9.out.cell rfl
  have t1 : (W12).cell? ⟨(w8.heap.size + 1), 1, none⟩ = some (.int .i64 ((nA : Int) + 1)) := Bt9.out.cell rfl
  have t2 : (W12).cell? ⟨(w8.heap.size + 1), 2, none⟩ = some (.int .i64 0) := Bt9.out.cell rfl
  have t3 : (W12).cell? ⟨(w8.heap.size + 1), 3, none⟩ = some (.string ⟨#[]⟩) := Bt9.out.cell rfl
  have lt : (w8.heap.size + 1) < (W12).heap.size := Bt9.out.lt
  have tf0 : (W12).frozen? ⟨(w8.heap.size + 1), 0, none⟩ = false := Bt9.out.frozen 0
  have tf1 : (W12).frozen? ⟨(w8.heap.size + 1), 1, none⟩ = false := Bt9.out.frozen 1
  have tf2 : (W12).frozen? ⟨(w8.heap.size + 1), 2, none⟩ = false := Bt9.out.frozen 2
  have tf3 : (W12).frozen? ⟨(w8.heap.size + 1), 3, none⟩ = false := Bt9.out.frozen 3
  go_upto_region 42 with fail
  generalize hW13 : World.setCell _ _ _ = W13
  have CS10 : Hid (CSt W W13 (.slice (some ⟨b, off, none⟩) nl lc) be bx #[.int .i64 (32 : Int), .string (txt s), .int .i64 n, .slice (some ⟨kb, ko, none⟩) 2 kc] bs) := Lib.hid (by rw [← hW13]; exact (CS9.out.set_ (g := w8.heap.size) (by omega) _ _))
  have RA10 : Hid (Own1 W13 W4.heap.size 46 4 Ins.Is (.slice aA nA cA) oA) := Lib.hid (by rw [← hW13]; exact (RA9.out.setOther (p := ⟨w8.heap.size, 1, none⟩) (fun e => by have := UA.out (w8.heap.size) e; omega) _))
  have RB10 : Hid (Own1 W13 W10.heap.size 46 4 Ins.Is (.slice aB nB cB) oB) := Lib.hid (by rw [← hW13]; exact (RB9.out.setOther (p := ⟨w8.heap.size, 1, none⟩) (fun e => by have := UB.out (w8.heap.size) e; omega) _))
  have Bt10 : Hid (Blk W13 (w8.heap.size + 1) 46 #[.int .i64 40, .int .i64 ((nA : Int) + 1), .int .i64 0, .string ⟨#[]⟩]) := Lib.hid (by rw [← hW13]; exact (Bt9.out.far (p := ⟨w8.heap.size, 1, none⟩) (by show _ ≠ w8.heap.size; omega) _))
  have By10 : Hid (Blk W13 w8.heap.size 46 #[.int .i64 39, .int .i64 ((nA : Int) + 2 + (nB : Int) + 1), .int .i64 0, .string ⟨#[]⟩]) := Lib.hid (by rw [← hW13]; have := (By9.out.set_ 1 (.int .i64 ((nA : Int) + 2 + (nB : Int) + 1))); simpa using this)
  have hsW13 : W12.heap.size ≤ W13.heap.size := by rw [← hW13]; simp
  clear hW13
  clear e0 x0 x1 x2 x3 le lx k0 k1 y0 y1 y2 y3 ly yf0 yf1 yf2 yf3 t0 t1 t2 t3 lt tf0 tf1 tf2 tf3
  have e0 : (W13).cell? ⟨be, 0, none⟩ = some (.slice (some ⟨b, off, none⟩) nl lc) := CS10.out.eb.cell rfl
  have x0 : (W13).cell? ⟨bx, 0, none⟩ = some (.int .i64 (32 : Int)) := CS10.out.xb.cell rfl
  have x1 : (W13).cell? ⟨bx, 1, none⟩ = some (.string (txt s)) := CS10.out.xb.cell rfl
  have x2 : (W13).cell? ⟨bx, 2, none⟩ = some (.int .i64 n) := CS10.out.xb.cell rfl
  have x3 : (W13).cell? ⟨bx, 3, none⟩ = some (.slice (some ⟨kb, ko, none⟩) 2 kc) := CS10.out.xb.cell rfl
  have le : be < (W13).heap.size := Nat.lt_of_lt_of_le CS10.out.le CS10.out.lB
  have lx : bx < (W13).heap.size := Nat.lt_of_lt_of_le CS10.out.lx CS10.out.lB
  have k0 : (W13).cell? ⟨kb, ko, none⟩ = some (.int .i64 (qta : Int)) := rkid_cell (j := 0) HKV.out Eta.out (HH.out.hw.trans (CS10.out.bel.mono HH.out.hw.size))
  have k1 : (W13).cell? ⟨kb, ko + 1, none⟩ = some (.int .i64 (qtb : Int)) := rkid_cell (j := 1) HKV.out Etb.out (HH.out.hw.trans (CS10.out.bel.mono HH.out.hw.size))
  have y0 : (W13).cell? ⟨w8.heap.size, 0, none⟩ = some (.int .i64 39) := By10.out.cell rfl
  have y1 : (W13).cell? ⟨w8.heap.size, 1, none⟩ = some (.int .i64 ((nA : Int) + 2 + (nB : Int) + 1)) := By10.out.cell rfl
  have y2 : (W13).cell? ⟨w8.heap.size, 2, none⟩ = some (.int .i64 0) := By10.out.cell rfl
  have y3 : (W13).cell? ⟨w8.heap.size, 3, none⟩ = some (.string ⟨#[]⟩) := By10.out.cell rfl
  have ly : w8.heap.size < (W13).heap.size := By10.out.lt
  have yf0 : (W13).frozen? ⟨w8.heap.size, 0, none⟩ = false := By10.out.frozen 0
  have yf1 : (W13).frozen? ⟨w8.heap.size, 1, none⟩ = false := By10.out.frozen 1
  have yf2 : (W13).frozen? ⟨w8.heap.size, 2, none⟩ = false := By10.out.frozen 2
  have yf3 : (W13).frozen? ⟨w8.heap.size, 3, none⟩ = false := By10.out.frozen 3
  have t0 : (W13).cell? ⟨(w8.heap.size + 1), 0, none⟩ = some (.int .i64 40) := Bt10.out.cell rfl
  have t1 : (W13).cell? ⟨(w8.heap.size + 1), 1, none⟩ = some (.int .i64 ((nA : Int) + 1)) := Bt10.out.cell rfl
  have t2 : (W13).cell? ⟨(w8.heap.size + 1), 2, none⟩ = some (.int .i64 0) := Bt10.out.cell rfl
  have t3 : (W13).cell? ⟨(w8.heap.size + 1), 3, none⟩ = some (.string ⟨#[]⟩) := Bt10.out.cell rfl
  have lt : (w8.heap.size + 1) < (W13).heap.size := Bt10.out.lt
  have tf0 : (W13).frozen? ⟨(w8.heap.size + 1), 0, none⟩ = false := Bt10.out.frozen 0
  have tf1 : (W13).frozen? ⟨(w8.heap.size + 1), 1, none⟩ = false := Bt10.out.frozen 1
  have tf2 : (W13).frozen? ⟨(w8.heap.size + 1), 2, none⟩ = false := Bt10.out.frozen 2
  have tf3 : (W13).frozen? ⟨(w8.heap.size + 1), 3, none⟩ = false := Bt10.out.frozen 3
  go_cut [11] from 183 to 193 (fun v11 wx => Hid (∃ base, bs ≤ base ∧ base ≤ wx.heap.size ∧ Own1 wx base 46 4 Ins.Is v11 (thenN (oA ++ [insI 36 0, insI 39 ((nA : Int) + 2 + (nB : Int) + 1)]) oB) ∧ CSt W wx (.slice (some ⟨b, off, none⟩) nl lc) be bx #[.int .i64 (32 : Int), .string (txt s), .int .i64 n, .slice (some ⟨kb, ko, none⟩) 2 kc] bs ∧ Blk wx (w8.heap.size + 1) 46 #[.int .i64 40, .int .i64 ((nA : Int) + 1), .int .i64 0, .string ⟨#[]⟩]))
  case first =>
    have tokW : True := trivial
    have tokI : True := trivial
    have tokP : True := trivial
    have tokT : True := trivial
    have CS11 := Lib.hid (CS10.out.drew)
    have RA11 := Lib.hid (RA10.out.drew)
    have RB11 := Lib.hid (RB10.out.drew)
    have By11 := Lib.hid (By10.out.drwC)
    have Bt11 := Lib.hid (Bt10.out.drwC)
    have hsd : W13.heap.size ≤ W13.drew.heap.size := Nat.le_refl _
    go_region_law (first
      | (have _t := tokW; go_simp; go_at_call 56; go_must (refine (WK.out _).mono ?_); clear tokW _t
         rintro e w' ⟨rfl, nq, rfl⟩
         go_must (have CS23 := Lib.hid (CS10.out.drewN (1 + nq)))
         go_must (have RA23 := Lib.hid (RA10.out.drewN (1 + nq)))
         go_must (have RB23 := Lib.hid (RB10.out.drewN (1 + nq)))
         go_must (have By23 := Lib.hid (By10.out.drwN (1 + nq)))
         go_must (have Bt23 := Lib.hid (Bt10.out.drwN (1 + nq)))
         go_must (have hsq : W13.heap.size ≤ (W13.drewN (1 + nq)).heap.size := Nat.le_refl _)
         clear e0 x0 x1 x2 x3 le lx k0 k1 y0 y1 y2 y3 ly yf0 yf1 yf2 yf3 t0 t1 t2 t3 lt tf0 tf1 tf2 tf3
         go_must (have e0 : ((W13.drewN (1 + nq))).cell? ⟨be, 0, none⟩ = some (.slice (some ⟨b, off, none⟩) nl lc) := CS23.out.eb.cell rfl)
         go_must (have x0 : ((W13.drewN (1 + nq))).cell? ⟨bx, 0, none⟩ = some (.int .i64 (32 : Int)) := CS23.out.xb.cell rfl)
         go_must (have x1 : ((W13.drewN (1 + nq))).cell? ⟨bx, 1, none⟩ = some (.string (txt s)) := CS23.out.xb.cell rfl)
         go_must (have x2 : ((W13.drewN (1 + nq))).cell? ⟨bx, 2, none⟩ = some (.int .i64 n) := CS23.out.xb.cell rfl)
         go_must (have x3 : ((W13.drewN (1 + nq))).cell? ⟨bx, 3, none⟩ = some (.slice (some ⟨kb, ko, none⟩) 2 kc) := CS23.out.xb.cell rfl)
         go_must (have le : be < ((W13.drewN (1 + nq))).heap.size := Nat.lt_of_lt_of_le CS23.out.le CS23.out.lB)
         go_must (have lx : bx < ((W13.drewN (1 + nq))).heap.size := Nat.lt_of_lt_of_le CS23.out.lx CS23.out.lB)
         go_must (have k0 : ((W13.drewN (1 + nq))).cell? ⟨kb, ko, none⟩ = some (.int .i64 (qta : Int)) := rkid_cell (j := 0) HKV.out Eta.out (HH.out.hw.trans (CS23.out.bel.mono HH.out.hw.size)))
         go_must (have k1 : ((W13.drewN (1 + nq))).cell? ⟨kb, ko + 1, none⟩ = some (.int .i64 (qtb : Int)) := rkid_cell (j := 1) HKV.out Etb.out (HH.out.hw.trans (CS23.out.bel.mono HH.out.hw.size)))
         go_must (have y0 : ((W13.drewN (1 + nq))).cell? ⟨w8.heap.size, 0, none⟩ = some (.int .i64 39) := By23.out.cell rfl)
         go_must (have y1 : ((W13.drewN (1 + nq))).cell? ⟨w8.heap.size, 1, none⟩ = some (.int .i64 ((nA : Int) + 2 + (nB : Int) + 1)) := By23.out.cell rfl)
         go_must (have y2 : ((W13.drewN (1 + nq))).cell? ⟨w8.heap.size, 2, none⟩ = some (.int .i64 0) := By23.out.cell rfl)
         go_must (have y3 : ((W13.drewN (1 + nq))).cell? ⟨w8.heap.size, 3, none⟩ = some (.string ⟨#[]⟩) := By23.out.cell rfl)
         go_must (have ly : w8.heap.size < ((W13.drewN (1 + nq))).heap.size := By23.out.lt)
         go_must (have yf0 : ((W13.drewN (1 + nq))).frozen? ⟨w8.heap.size, 0, none⟩ = false := By23.out.frozen 0)
         go_must (have yf1 : ((W13.drewN (1 + nq))).frozen? ⟨w8.heap.size, 1, none⟩ = false := By23.out.frozen 1)
         go_must (have yf2 : ((W13.drewN (1 + nq))).frozen? ⟨w8.heap.size, 2, none⟩ = false := By23.out.frozen 2)
         go_must (have yf3 : ((W13.drewN (1 + nq))).frozen? ⟨w8.heap.size, 3, none⟩ = false := By23.out.frozen 3)
         go_must (have t0 : ((W13.drewN (1 + nq))).cell? ⟨(w8.heap.size + 1), 0, none⟩ = some (.int .i64 40) := Bt23.out.cell rfl)
         go_must (have t1 : ((W13.drewN (1 + nq))).cell? ⟨(w8.heap.size + 1), 1, none⟩ = some (.int .i64 ((nA : Int) + 1)) := Bt23.out.cell rfl)
         go_must (have t2 : ((W13.drewN (1 + nq))).cell? ⟨(w8.heap.size + 1), 2, none⟩ = some (.int .i64 0) := Bt23.out.cell rfl)
         go_must (have t3 : ((W13.drewN (1 + nq))).cell? ⟨(w8.heap.size + 1), 3, none⟩ = some (.string ⟨#[]⟩) := Bt23.out.cell rfl)
         go_must (have lt : (w8.heap.size + 1) < ((W13.drewN (1 + nq))).heap.size := Bt23.out.lt)
         go_must (have tf0 : ((W13.drewN (1 + nq))).frozen? ⟨(w8.heap.size + 1), 0, none⟩ = false := Bt23.out.frozen 0)
         go_must (have tf1 : ((W13.drewN (1 + nq))).frozen? ⟨(w8.heap.size + 1), 1, none⟩ = false := Bt23.out.frozen 1)
         go_must (have tf2 : ((W13.drewN (1 + nq))).frozen? ⟨(w8.heap.size + 1), 2, none⟩ = false := Bt23.out.frozen 2)
         go_must (have tf3 : ((W13.drewN (1 + nq))).frozen? ⟨(w8.heap.size + 1), 3, none⟩ = false := Bt23.out.frozen 3))
      | (have _t := tokI; go_simp; go_at_call 55; go_must (refine (IK.out _).mono ?_); clear tokI _t
         rintro e w14 ⟨rfl, hb⟩
         go_must (have CS24 := Lib.hid (CS23.out.call hb))
         go_must (have RA24 := Lib.hid (RA23.out.below hb (Nat.le_refl _)))
         go_must (have RB24 := Lib.hid (RB23.out.below hb (Nat.le_refl _)))
         go_must (have By24 := Lib.hid (By23.out.below hb By23.out.lt))
         go_must (have Bt24 := Lib.hid (Bt23.out.below hb Bt23.out.lt))
         go_must (have hsw14 := hb.size)
         clear hb
         clear e0 x0 x1 x2 x3 le lx k0 k1 y0 y1 y2 y3 ly yf0 yf1 yf2 yf3 t0 t1 t2 t3 lt tf0 tf1 tf2 tf3
         go_must (have e0 : (w14).cell? ⟨be, 0, none⟩ = some (.slice (some ⟨b, off, none⟩) nl lc) := CS24.out.eb.cell rfl)
         go_must (have x0 : (w14).cell? ⟨bx, 0, none⟩ = some (.int .i64 (32 : Int)) := CS24.out.xb.cell rfl)
         go_must (have x1 : (w14).cell? ⟨bx, 1, none⟩ = some (.string (txt s)) := CS24.out.xb.cell rfl)
         go_must (have x2 : (w14).cell? ⟨bx, 2, none⟩ = some (.int .i64 n) := CS24.out.xb.cell rfl)
         go_must (have x3 : (w14).cell? ⟨bx, 3, none⟩ = some (.slice (some ⟨kb, ko, none⟩) 2 kc) := CS24.out.xb.cell rfl)
         go_must (have le : be < (w14).heap.size := Nat.lt_of_lt_of_le CS24.out.le CS24.out.lB)
         go_must (have lx : bx < (w14).heap.size := Nat.lt_of_lt_of_le CS24.out.lx CS24.out.lB)
         go_must (have k0 : (w14).cell? ⟨kb, ko, none⟩ = some (.int .i64 (qta : Int)) := rkid_cell (j := 0) HKV.out Eta.out (HH.out.hw.trans (CS24.out.bel.mono HH.out.hw.size)))
         go_must (have k1 : (w14).cell? ⟨kb, ko + 1, none⟩ = some (.int .i64 (qtb : Int)) := rkid_cell (j := 1) HKV.out Etb.out (HH.out.hw.trans (CS24.out.bel.mono HH.out.hw.size)))
         go_must (have y0 : (w14).cell? ⟨w8.heap.size, 0, none⟩ = some (.int .i64 39) := By24.out.cell rfl)
         go_must (have y1 : (w14).cell? ⟨w8.heap.size, 1, none⟩ = some (.int .i64 ((nA : Int) + 2 + (nB : Int) + 1)) := By24.out.cell rfl)
         go_must (have y2 : (w14).cell? ⟨w8.heap.size, 2, none⟩ = some (.int .i64 0) := By24.out.cell rfl)
         go_must (have y3 : (w14).cell? ⟨w8.heap.size, 3, none⟩ = some (.string ⟨#[]⟩) := By24.out.cell rfl)
         go_must (have ly : w8.heap.size < (w14).heap.size := By24.out.lt)
         go_must (have yf0 : (w14).frozen? ⟨w8.heap.size, 0, none⟩ = false := By24.out.frozen 0)
         go_must (have yf1 : (w14).frozen? ⟨w8.heap.size, 1, none⟩ = false := By24.out.frozen 1)
         go_must (have yf2 : (w14).frozen? ⟨w8.heap.size, 2, none⟩ = false := By24.out.frozen 2)
         go_must (have yf3 : (w14).frozen? ⟨w8.heap.size, 3, none⟩ = false := By24.out.frozen 3)
         go_must (have t0 : (w14).cell? ⟨(w8.heap.size + 1), 0, none⟩ = some (.int .i64 40) := Bt24.out.cell rfl)
         go_must (have t1 : (w14).cell? ⟨(w8.heap.size + 1), 1, none⟩ = some (.int .i64 ((nA : Int) + 1)) := Bt24.out.cell rfl)
         go_must (have t2 : (w14).cell? ⟨(w8.heap.size + 1), 2, none⟩ = some (.int .i64 0) := Bt24.out.cell rfl)
         go_must (have t3 : (w14).cell? ⟨(w8.heap.size + 1), 3, none⟩ = some (.string ⟨#[]⟩) := Bt24.out.cell rfl)
         go_must (have lt : (w8.heap.size + 1) < (w14).heap.size := Bt24.out.lt)
         go_must (have tf0 : (w14).frozen? ⟨(w8.heap.size + 1), 0, none⟩ = false := Bt24.out.frozen 0)
         go_must (have tf1 : (w14).frozen? ⟨(w8.heap.size + 1), 1, none⟩ = false := Bt24.out.frozen 1)
         go_must (have tf2 : (w14).frozen? ⟨(w8.heap.size + 1), 2, none⟩ = false := Bt24.out.frozen 2)
         go_must (have tf3 : (w14).frozen? ⟨(w8.heap.size + 1), 3, none⟩ = false := Bt24.out.frozen 3))
      | (have _t := tokT; go_simp; go_at_call 58; go_must (refine (rthen_any w15 (RA25.out.read (by decide)) (RB25.out.read (by decide)) OPSB.out (by have := HNA.out; simp <;> omega) (by have := HNB.out; omega)).mono ?_); clear tokT _t
         rintro e w16 ⟨ov, rfl, hk1, hk2⟩
         go_must (have CS26 := Lib.hid (CS25.out.call hk2))
         go_must (have Bt26 := Lib.hid (Bt25.out.below hk2 Bt25.out.lt))
         go_must (have hsw16 := hk2.size)
         obtain ⟨aT, cT, rfl⟩ := hk1.form
         obtain ⟨nT, hnT⟩ : ∃ z, ((thenN (oA ++ [(insI 36 0), (insI 39 ((nA : Int) + 2 + (nB : Int) + 1))]) oB)).length = z := ⟨_, rfl⟩
         rw [hnT] at hk1 ⊢
         go_must (have bT : nT ≤ 2100 := by rw [← hnT, thenN_len]; have := HNA.out; have := HNB.out; simp <;> omega)
         go_must (have HNT := Lib.hid hnT)
         go_must (have UT := Lib.hid hk1.block)
         go_must (have RT := Lib.hid hk1)
         clear hnT hk1
         clear hk2
         clear e0 x0 x1 x2 x3 le lx k0 k1 t0 t1 t2 t3 lt tf0 tf1 tf2 tf3
         go_must (have e0 : (w16).cell? ⟨be, 0, none⟩ = some (.slice (some ⟨b, off, none⟩) nl lc) := CS26.out.eb.cell rfl)
         go_must (have x0 : (w16).cell? ⟨bx, 0, none⟩ = some (.int .i64 (32 : Int)) := CS26.out.xb.cell rfl)
         go_must (have x1 : (w16).cell? ⟨bx, 1, none⟩ = some (.string (txt s)) := CS26.out.xb.cell rfl)
         go_must (have x2 : (w16).cell? ⟨bx, 2, none⟩ = some (.int .i64 n) := CS26.out.xb.cell rfl)
         go_must (have x3 : (w16).cell? ⟨bx, 3, none⟩ = some (.slice (some ⟨kb, ko, none⟩) 2 kc) := CS26.out.xb.cell rfl)
         go_must (have le : be < (w16).heap.size := Nat.lt_of_lt_of_le CS26.out.le CS26.out.lB)
         go_must (have lx : bx < (w16).heap.size := Nat.lt_of_lt_of_le CS26.out.lx CS26.out.lB)
         go_must (have k0 : (w16).cell? ⟨kb, ko, none⟩ = some (.int .i64 (qta : Int)) := rkid_cell (j := 0) HKV.out Eta.out (HH.out.hw.trans (CS26.out.bel.mono HH.out.hw.size)))
         go_must (have k1 : (w16).cell? ⟨kb, ko + 1, none⟩ = some (.int .i64 (qtb : Int)) := rkid_cell (j := 1) HKV.out Etb.out (HH.out.hw.trans (CS26.out.bel.mono HH.out.hw.size)))
         go_must (have t0 : (w16).cell? ⟨(w8.heap.size + 1), 0, none⟩ = some (.int .i64 40) := Bt26.out.cell rfl)
         go_must (have t1 : (w16).cell? ⟨(w8.heap.size + 1), 1, none⟩ = some (.int .i64 ((nA : Int) + 1)) := Bt26.out.cell rfl)
         go_must (have t2 : (w16).cell? ⟨(w8.heap.size + 1), 2, none⟩ = some (.int .i64 0) := Bt26.out.cell rfl)
         go_must (have t3 : (w16).cell? ⟨(w8.heap.size + 1), 3, none⟩ = some (.string ⟨#[]⟩) := Bt26.out.cell rfl)
         go_must (have lt : (w8.heap.size + 1) < (w16).heap.size := Bt26.out.lt)
         go_must (have tf0 : (w16).frozen? ⟨(w8.heap.size + 1), 0, none⟩ = false := Bt26.out.frozen 0)
         go_must (have tf1 : (w16).frozen? ⟨(w8.heap.size + 1), 1, none⟩ = false := Bt26.out.frozen 1)
         go_must (have tf2 : (w16).frozen? ⟨(w8.heap.size + 1), 2, none⟩ = false := Bt26.out.frozen 2)
         go_must (have tf3 : (w16).frozen? ⟨(w8.heap.size + 1), 3, none⟩ = false := Bt26.out.frozen 3))
      | (have _t := tokP
         skip
         go_must (refine step_append_list rfl (.tmp 183) (.tmp 189) _ (by rfl) W4.heap.size (w14.heap.size + 1) 46 jI _ 4 40 Tryd.underlying22 I.out.1 I.out.2.1 I.out.2.2.1 I.out.2.2.2 rfl (by omega) (R := Ins.Is) (l := oA) (m := [(insI 36 0), (insI 39 ((nA : Int) + 2 + (nB : Int) + 1))]) (.slice aA nA cA) (by rfl) (by exact (RA24.out.alloc (.cells #[.int .i64 36, .int .i64 0, .int .i64 0, .string ⟨#[]⟩, .int .i64 39, .int .i64 ((nA : Int) + 2 + (nB : Int) + 1), .int .i64 0, .string ⟨#[]⟩] 46))) (some ⟨w14.heap.size, 0, none⟩) 2 2 (by rfl) (by exact SlR.new2 (w := w14) (e := 46) (g := w14.heap.size) (R := Ins.Is) (x := [.int .i64 36, .int .i64 0, .int .i64 0, .string ⟨#[]⟩]) (x' := [.int .i64 39, .int .i64 ((nA : Int) + 2 + (nB : Int) + 1), .int .i64 0, .string ⟨#[]⟩]) (y := (insI 36 0)) (y' := (insI 39 ((nA : Int) + 2 + (nB : Int) + 1))) rfl (by omega) rfl rfl ⟨rfl, ins_ok (by omega) (by omega) (by omega) (by omega) (by omega) (by omega) nil_size⟩ ⟨rfl, ins_ok (by omega) (by omega) (by omega) (by omega) (by omega) (by omega) nil_size⟩) (nA + 2) (by rw [HNA.out]) Ins.Is.one (by have := HNA.out; unfold maxLen; simp <;> omega) (by have := HNA.out; simp <;> omega) (by simp <;> omega) ?_)
         clear tokP _t
         intro aA' cA' w15 hown hgr
         go_must (have CS25 := Lib.hid ((CS24.out.alloc (.cells #[.int .i64 36, .int .i64 0, .int .i64 0, .string ⟨#[]⟩, .int .i64 39, .int .i64 ((nA : Int) + 2 + (nB : Int) + 1), .int .i64 0, .string ⟨#[]⟩] 46)).grown ((RA24.out.alloc (.cells #[.int .i64 36, .int .i64 0, .int .i64 0, .string ⟨#[]⟩, .int .i64 39, .int .i64 ((nA : Int) + 2 + (nB : Int) + 1), .int .i64 0, .string ⟨#[]⟩] 46)).mono (by have := CS24.out.lB; omega)) hgr))
         go_must (have RB25 := Lib.hid ((RB24.out.alloc (.cells #[.int .i64 36, .int .i64 0, .int .i64 0, .string ⟨#[]⟩, .int .i64 39, .int .i64 ((nA : Int) + 2 + (nB : Int) + 1), .int .i64 0, .string ⟨#[]⟩] 46)).keepG (RA24.out.alloc (.cells #[.int .i64 36, .int .i64 0, .int .i64 0, .string ⟨#[]⟩, .int .i64 39, .int .i64 ((nA : Int) + 2 + (nB : Int) + 1), .int .i64 0, .string ⟨#[]⟩] 46)) hgr (.inr (fun g e => by have := (UA.out g e).2; omega))))
         go_must (have Bt25 := Lib.hid ((Bt24.out.alloc (.cells #[.int .i64 36, .int .i64 0, .int .i64 0, .string ⟨#[]⟩, .int .i64 39, .int .i64 ((nA : Int) + 2 + (nB : Int) + 1), .int .i64 0, .string ⟨#[]⟩] 46)).grown hgr (fun e => by have := UA.out ((w8.heap.size + 1)) e.symm; omega)))
         go_must (have RA25 := Lib.hid hown)
         go_must (have hsw15 : w14.heap.size < w15.heap.size := by have := hgr.size; simp at this; omega)
         clear hown hgr
         clear e0 x0 x1 x2 x3 le lx k0 k1 y0 y1 y2 y3 ly yf0 yf1 yf2 yf3 t0 t1 t2 t3 lt tf0 tf1 tf2 tf3
         go_must (have e0 : (w15).cell? ⟨be, 0, none⟩ = some (.slice (some ⟨b, off, none⟩) nl lc) := CS25.out.eb.cell rfl)
         go_must (have x0 : (w15).cell? ⟨bx, 0, none⟩ = some (.int .i64 (32 : Int)) := CS25.out.xb.cell rfl)
         go_must (have x1 : (w15).cell? ⟨bx, 1, none⟩ = some (.string (txt s)) := CS25.out.xb.cell rfl)
         go_must (have x2 : (w15).cell? ⟨bx, 2, none⟩ = some (.int .i64 n) := CS25.out.xb.cell rfl)
         go_must (have x3 : (w15).cell? ⟨bx, 3, none⟩ = some (.slice (some ⟨kb, ko, none⟩) 2 kc) := CS25.out.xb.cell rfl)
         go_must (have le : be < (w15).heap.size := Nat.lt_of_lt_of_le CS25.out.le CS25.out.lB)
         go_must (have lx : bx < (w15).heap.size := Nat.lt_of_lt_of_le CS25.out.lx CS25.out.lB)
         go_must (have k0 : (w15).cell? ⟨kb, ko, none⟩ = some (.int .i64 (qta : Int)) := rkid_cell (j := 0) HKV.out Eta.out (HH.out.hw.trans (CS25.out.bel.mono HH.out.hw.size)))
         go_must (have k1 : (w15).cell? ⟨kb, ko + 1, none⟩ = some (.int .i64 (qtb : Int)) := rkid_cell (j := 1) HKV.out Etb.out (HH.out.hw.trans (CS25.out.bel.mono HH.out.hw.size)))
         go_must (have t0 : (w15).cell? ⟨(w8.heap.size + 1), 0, none⟩ = some (.int .i64 40) := Bt25.out.cell rfl)
         go_must (have t1 : (w15).cell? ⟨(w8.heap.size + 1), 1, none⟩ = some (.int .i64 ((nA : Int) + 1)) := Bt25.out.cell rfl)
         go_must (have t2 : (w15).cell? ⟨(w8.heap.size + 1), 2, none⟩ = some (.int .i64 0) := Bt25.out.cell rfl)
         go_must (have t3 : (w15).cell? ⟨(w8.heap.size + 1), 3, none⟩ = some (.string ⟨#[]⟩) := Bt25.out.cell rfl)
         go_must (have lt : (w8.heap.size + 1) < (w15).heap.size := Bt25.out.lt)
         go_must (have tf0 : (w15).frozen? ⟨(w8.heap.size + 1), 0, none⟩ = false := Bt25.out.frozen 0)
         go_must (have tf1 : (w15).frozen? ⟨(w8.heap.size + 1), 1, none⟩ = false := Bt25.out.frozen 1)
         go_must (have tf2 : (w15).frozen? ⟨(w8.heap.size + 1), 2, none⟩ = false := Bt25.out.frozen 2)
         go_must (have tf3 : (w15).frozen? ⟨(w8.heap.size + 1), 3, none⟩ = false := Bt25.out.frozen 3))
      | fail)
    all_goals
      go_wp2_with fail
      go_meet
      exact Lib.hid ⟨w15.heap.size, by omega, by omega, RT.out, CS26.out, Bt26.out⟩
  case rest =>
    rename World => w17
    obtain ⟨base, hb1, hb2, hk1, hk2, hk3⟩ := hcut.out
    clear hcut
    have CSz := Lib.hid hk2
    have Btz := Lib.hid hk3
    clear hk2 hk3
    obtain ⟨aT, cT, rfl⟩ := hk1.form
    obtain ⟨nT, hnT⟩ : ∃ z, ((thenN (oA ++ [insI 36 0, insI 39 ((nA : Int) + 2 + (nB : Int) + 1)]) oB)).length = z := ⟨_, rfl⟩
    rw [hnT] at hk1 ⊢
    have bT : nT ≤ 2100 := by rw [← hnT, thenN_len]; have := HNA.out; have := HNB.out; simp <;> omega
    have HNT := Lib.hid hnT
    have UT := Lib.hid hk1.block
    have RT := Lib.hid hk1
    clear hnT hk1
    clear e0 x0 x1 x2 x3 le lx k0 k1 y0 y1 y2 y3 ly yf0 yf1 yf2 yf3 t0 t1 t2 t3 lt tf0 tf1 tf2 tf3
    have e0 : (w17).cell? ⟨be, 0, none⟩ = some (.slice (some ⟨b, off, none⟩) nl lc) := CSz.out.eb.cell rfl
    have x0 : (w17).cell? ⟨bx, 0, none⟩ = some (.int .i64 (32 : Int)) := CSz.out.xb.cell rfl
    have x1 : (w17).cell? ⟨bx, 1, none⟩ = some (.string (txt s)) := CSz.out.xb.cell rfl
    have x2 : (w17).cell? ⟨bx, 2, none⟩ = some (.int .i64 n) := CSz.out.xb.cell rfl
    have x3 : (w17).cell? ⟨bx, 3, none⟩ = some (.slice (some ⟨kb, ko, none⟩) 2 kc) := CSz.out.xb.cell rfl
    have le : be < (w17).heap.size := Nat.lt_of_lt_of_le CSz.out.le CSz.out.lB
    have lx : bx < (w17).heap.size := Nat.lt_of_lt_of_le CSz.out.lx CSz.out.lB
    have k0 : (w17).cell? ⟨kb, ko, none⟩ = some (.int .i64 (qta : Int)) := rkid_cell (j := 0) HKV.out Eta.out (HH.out.hw.trans (CSz.out.bel.mono HH.out.hw.size))
    have k1 : (w17).cell? ⟨kb, ko + 1, none⟩ = some (.int .i64 (qtb : Int)) := rkid_cell (j := 1) HKV.out Etb.out (HH.out.hw.trans (CSz.out.bel.mono HH.out.hw.size))
    have t0 : (w17).cell? ⟨(w8.heap.size + 1), 0, none⟩ = some (.int .i64 40) := Btz.out.cell rfl
    have t1 : (w17).cell? ⟨(w8.heap.size + 1), 1, none⟩ = some (.int .i64 ((nA : Int) + 1)) := Btz.out.cell rfl
    have t2 : (w17).cell? ⟨(w8.heap.size + 1), 2, none⟩ = some (.int .i64 0) := Btz.out.cell rfl
    have t3 : (w17).cell? ⟨(w8.heap.size + 1), 3, none⟩ = some (.string ⟨#[]⟩) := Btz.out.cell rfl
    have lt : (w8.heap.size + 1) < (w17).heap.size := Btz.out.lt
    have tf0 : (w17).frozen? ⟨(w8.heap.size + 1), 0, none⟩ = false := Btz.out.frozen 0
    have tf1 : (w17).frozen? ⟨(w8.heap.size + 1), 1, none⟩ = false := Btz.out.frozen 1
    have tf2 : (w17).frozen? ⟨(w8.heap.size + 1), 2, none⟩ = false := Btz.out.frozen 2
    have tf3 : (w17).frozen? ⟨(w8.heap.size + 1), 3, none⟩ = false := Btz.out.frozen 3
    have tokR : True := trivial
    go_wp2_with (first
      | (have _t := tokR
         at_builtin
         go_must (refine wpList_append_list rfl (.tmp 193) (.tmp 195) _ (by rfl) base (w17.heap.size + 1) 46 jI _ 4 40 Tryd.underlying22 I.out.1 I.out.2.1 I.out.2.2.1 I.out.2.2.2 rfl (by omega) (R := Ins.Is) (l := (thenN (oA ++ [insI 36 0, insI 39 ((nA : Int) + 2 + (nB : Int) + 1)]) oB)) (m := [(insI 40 ((nA : Int) + 1))]) (.slice aT nT cT) (by rfl) (by exact (RT.out.alloc (.cells #[.int .i64 40, .int .i64 ((nA : Int) + 1), .int .i64 0, .string ⟨#[]⟩] 46))) (some ⟨w17.heap.size, 0, none⟩) 1 1 (by rfl) (SlR.new1 (w := w17) (e := 46) (g := w17.heap.size) rfl (x := [.int .i64 40, .int .i64 ((nA : Int) + 1), .int .i64 0, .string ⟨#[]⟩]) rfl (R := Ins.Is) (y := (insI 40 ((nA : Int) + 1))) ⟨rfl, ins_ok (by omega) (by omega) (by omega) (by omega) (by omega) (by omega) nil_size⟩) (nT + 1) (by rw [HNT.out]) Ins.Is.one (by have := HNT.out; unfold maxLen; simp <;> omega) (by have := HNT.out; simp <;> omega) (by simp <;> omega) ?_)
         clear tokR _t
         intro aT' cT' w18 hown hgr
         go_must (have CS11 := Lib.hid ((CSz.out.alloc (.cells #[.int .i64 40, .int .i64 ((nA : Int) + 1), .int .i64 0, .string ⟨#[]⟩] 46)).grown ((RT.out.alloc (.cells #[.int .i64 40, .int .i64 ((nA : Int) + 1), .int .i64 0, .string ⟨#[]⟩] 46)).mono (by have := CSz.out.lB; omega)) hgr))
         go_must (have RT11 := Lib.hid hown)
         go_must (have hsw18 : w17.heap.size < w18.heap.size := by have := hgr.size; simp at this; omega)
         clear hown hgr
         clear e0 x0 x1 x2 x3 le lx k0 k1 t0 t1 t2 t3 lt tf0 tf1 tf2 tf3
         go_must (have e0 : (w18).cell? ⟨be, 0, none⟩ = some (.slice (some ⟨b, off, none⟩) nl lc) := CS11.out.eb.cell rfl)
         go_must (have x0 : (w18).cell? ⟨bx, 0, none⟩ = some (.int .i64 (32 : Int)) := CS11.out.xb.cell rfl)
         go_must (have x1 : (w18).cell? ⟨bx, 1, none⟩ = some (.string (txt s)) := CS11.out.xb.cell rfl)
         go_must (have x2 : (w18).cell? ⟨bx, 2, none⟩ = some (.int .i64 n) := CS11.out.xb.cell rfl)
         go_must (have x3 : (w18).cell? ⟨bx, 3, none⟩ = some (.slice (some ⟨kb, ko, none⟩) 2 kc) := CS11.out.xb.cell rfl)
         go_must (have le : be < (w18).heap.size := Nat.lt_of_lt_of_le CS11.out.le CS11.out.lB)
         go_must (have lx : bx < (w18).heap.size := Nat.lt_of_lt_of_le CS11.out.lx CS11.out.lB)
         go_must (have k0 : (w18).cell? ⟨kb, ko, none⟩ = some (.int .i64 (qta : Int)) := rkid_cell (j := 0) HKV.out Eta.out (HH.out.hw.trans (CS11.out.bel.mono HH.out.hw.size)))
         go_must (have k1 : (w18).cell? ⟨kb, ko + 1, none⟩ = some (.int .i64 (qtb : Int)) := rkid_cell (j := 1) HKV.out Etb.out (HH.out.hw.trans (CS11.out.bel.mono HH.out.hw.size))))
      | fail)
    go_ret
    rw [HCR.out]
    rw [HNA.out, HNB.out]
    exact rcodeK_of (RT11.out.mono (by omega)) CS11.out.bel
set_option maxRecDepth 100000 in
set_option maxHeartbeats 8000000 in
theorem rcode_loop33 {l : List ND} {lv : Value} {W0 : World} {f p : Nat} {s : List Nat} {n m : Int} {ta tb : Tr} {vs : List (List Nat)} {W : World} (H : RPre l lv W0 (f + 1) (.node 33 s n [ta, tb]) p vs m W) (ih : RCodeIs l lv W0 f) : Calls Tryd.prog 30 #[.agg #[lv], .int .i64 (p : Int), .int .i64 m] W (RCodeK W (cR (f + 1) (.node 33 s n [ta, tb]) vs m)) := by
  obtain ⟨hd, hks⟩ := stands_node H.st
  obtain ⟨la, lc, rfl, _, _⟩ := H.hs.form
  have hpl := (List.getElem?_eq_some_iff.1 hd).1
  obtain ⟨nl, hnl⟩ : ∃ z, l.length = z := ⟨_, rfl⟩
  rw [hnl] at H hpl ⊢
  try rw [hnl] at ih
  have hB6 := H.hw.alloc H.hw.size (.cells #[.slice la nl lc] 38)
  have hhs := H.hs
  obtain ⟨b, off, x, rfl, hbB, hxl, ⟨kv, rfl, hkv⟩, hx⟩ := (hhs.below hB6).at_ hd
  obtain ⟨ka, kc, rfl, _, _⟩ := hkv.form
  simp only [List.length_map, places_len] at hkv hx
  simp only [List.length_cons, List.length_nil, Nat.zero_add, Nat.reduceAdd] at hkv hx
  have x0 := hx 0 _ rfl
  have x1 := hx 1 _ rfl
  have x2 := hx 2 _ rfl
  have x3 := hx 3 _ rfl
  simp only [Nat.add_zero] at x0
  have p0 : (0 : Int) ≤ (p : Int) := Int.natCast_nonneg _
  have p1 : (p : Int) < (nl : Int) := by omega
  have HH := Lib.hid H
  have HNL := Lib.hid hnl
  have HKV := Lib.hid hkv
  have m1 := H.m1
  have m2 : m ≤ 1000 := by have := H.mf; omega
  obtain ⟨jI, hi, hz, hsz, hby⟩ := info_parts info_Ins
  have I := Lib.hid (And.intro hi (And.intro hz (And.intro hsz hby)))
  clear hi hz hsz hby H hd hkv hx hxl hks hnl hhs hB6
  go_enter Tryd.func30, Tryd.ntmps30
  go_upto_region 1 with fail
  have e0 : (W.alloc (.cells #[(.slice (some ⟨b, off, none⟩) nl lc)] 38)).cell? ⟨W.heap.size, 0, none⟩ = some (.slice (some ⟨b, off, none⟩) nl lc) := (Blk.new W 38 #[(.slice (some ⟨b, off, none⟩) nl lc)]).cell rfl
  have lw0 : W.heap.size < (W.alloc (.cells #[(.slice (some ⟨b, off, none⟩) nl lc)] 38)).heap.size := (Blk.new W 38 #[(.slice (some ⟨b, off, none⟩) nl lc)]).lt
  generalize hW1 : W.alloc (.cells #[(.slice (some ⟨b, off, none⟩) nl lc)] 38) = W1 at *
  have HW1 := Lib.hid hW1
  clear hW1
  go_upto_region 4 with (first
    | (go_at_call 55; go_must (refine (rins_step _).mono ?_); rintro e w2 ⟨rfl, hb⟩; go_must (have HB := Lib.hid (CSt.make HW1.out.symm hb)); clear hb)
    | fail)
  clear x0 x1 x2 x3 e0 lw0
  have CS := Lib.hid (HB.out.alloc (.cells #[.int .i64 1, .int .i64 m, .int .i64 0, .string ⟨#[]⟩] 46))
  have SK := Lib.hid (Blk.new w2 46 #[.int .i64 1, .int .i64 m, .int .i64 0, .string ⟨#[]⟩])
  generalize hW3 : w2.alloc (.cells #[.int .i64 1, .int .i64 m, .int .i64 0, .string ⟨#[]⟩] 46) = W3 at *
  obtain ⟨be, hbe⟩ : ∃ z, W.heap.size = z := ⟨_, rfl⟩
  obtain ⟨bx, hbx⟩ : ∃ z, W1.heap.size = z := ⟨_, rfl⟩
  obtain ⟨bs, hbs⟩ : ∃ z, w2.heap.size = z := ⟨_, rfl⟩
  rw [hbe] at CS
  rw [hbx, hbs] at CS
  rw [hbs] at SK
  first | rw [hbe, hbx, hbs] | rw [hbx, hbe, hbs]
  clear HB hW3 hbx hbs HW1
  have e0 : (W3).cell? ⟨be, 0, none⟩ = some (.slice (some ⟨b, off, none⟩) nl lc) := CS.out.eb.cell rfl
  have x0 : (W3).cell? ⟨bx, 0, none⟩ = some (.int .i64 (33 : Int)) := CS.out.xb.cell rfl
  have x1 : (W3).cell? ⟨bx, 1, none⟩ = some (.string (txt s)) := CS.out.xb.cell rfl
  have x2 : (W3).cell? ⟨bx, 2, none⟩ = some (.int .i64 n) := CS.out.xb.cell rfl
  have x3 : (W3).cell? ⟨bx, 3, none⟩ = some (.slice ka 2 kc) := CS.out.xb.cell rfl
  have le : be < (W3).heap.size := Nat.lt_of_lt_of_le CS.out.le CS.out.lB
  have lx : bx < (W3).heap.size := Nat.lt_of_lt_of_le CS.out.lx CS.out.lB
  have HSZ : Hid (1 + sizeL [ta, tb] ≤ 256) := Lib.hid (by have h1 := stands_size HH.out.st; have h2 := HH.out.hl; have := HNL.out; simp only [Tr.size] at h1; omega)
  obtain ⟨qta, sta, uta, eta⟩ := rkid HH.out.st HH.out.un (j := 0) (a := ta) rfl
  rw [if_neg (by omega)] at uta
  have Sta := Lib.hid sta
  have Vta := Lib.hid uta
  have Eta := Lib.hid eta
  clear sta uta eta
  obtain ⟨qtb, stb, utb, etb⟩ := rkid HH.out.st HH.out.un (j := 1) (a := tb) rfl
  rw [if_pos (by omega)] at utb
  have Stb := Lib.hid stb
  have Vtb := Lib.hid utb
  have Etb := Lib.hid etb
  clear stb utb etb
  obtain ⟨kb, ko, rfl⟩ := kid_form HKV.out (stands_node HH.out.st).2 (j := 0) (t := ta) rfl
  have wr1 : IntKind.i64.wrap (m + 1) = m + 1 := by rw [IntKind.wrap_i64]; omega
  have hs0 : bs ≤ W3.heap.size := CS.out.lB
  have hwl : W.heap.size ≤ bs := CS.out.wl
  obtain ⟨oA, hoA⟩ : ∃ z, cR f ta vs (m + 1) = z := ⟨_, rfl⟩
  have HOA := Lib.hid hoA
  have OPSA : Hid (∀ y ∈ oA, (1 ≤ y.op ∧ y.op ≤ 40) ∧ -1000000 ≤ y.arg ∧ y.arg ≤ 1000000) := Lib.hid (by rw [← hoA]; exact rcode_ops HH.out (j := 0) rfl (by simp) (by omega) (by omega))
  clear hoA
  obtain ⟨oB, hoB⟩ : ∃ z, cR f tb (vs ++ [s]) (1) = z := ⟨_, rfl⟩
  have HOB := Lib.hid hoB
  have OPSB : Hid (∀ y ∈ oB, (1 ≤ y.op ∧ y.op ≤ 40) ∧ -1000000 ≤ y.arg ∧ y.arg ≤ 1000000) := Lib.hid (by rw [← hoB]; exact rcode_ops HH.out (j := 1) rfl (by simp) (by omega) (by omega))
  clear hoB
  have hcr : cR (f + 1) (.node 33 s n [ta, tb]) vs m = thenN (oA ++ [insI 37 0, insI 39 ((oA.length : Int) + 2 + (oB.length : Int) + 1)]) oB ++ [insI 40 ((oA.length : Int) + 1)] := by rw [← HOA.out, ← HOB.out]; simp only [cR]; rw [if_neg (by decide), if_pos (by decide)]; rfl
  have HCR := Lib.hid hcr
  clear hcr
  have LK : Hid (∀ w, Calls Tryd.prog 59 #[.int .i64 33] w fun e w' => e = .returned (.bool true) ∧ Quiet w w') := Lib.hid (fun w => rloop_any 33 w)
  have WK : Hid (∀ w, Calls Tryd.prog 56 #[.int .i64 33] w fun e w' => e = .returned (.string (wordK 33)) ∧ Quiet w w') := Lib.hid (fun w => rkind_any 33 (by omega) w)
  have hop : opR (wordK 33) = 37 := opR_wordK (by omega)
  obtain ⟨wk, hwk⟩ : ∃ z, wordK 33 = z := ⟨_, rfl⟩
  rw [hwk] at WK hop
  have IK := Lib.hid (rins_any wk)
  rw [hop] at IK
  clear hwk hop
  clear e0 x0 x1 x2 x3 le lx
  have e0 : (W3).cell? ⟨be, 0, none⟩ = some (.slice (some ⟨b, off, none⟩) nl lc) := CS.out.eb.cell rfl
  have x0 : (W3).cell? ⟨bx, 0, none⟩ = some (.int .i64 (33 : Int)) := CS.out.xb.cell rfl
  have x1 : (W3).cell? ⟨bx, 1, none⟩ = some (.string (txt s)) := CS.out.xb.cell rfl
  have x2 : (W3).cell? ⟨bx, 2, none⟩ = some (.int .i64 n) := CS.out.xb.cell rfl
  have x3 : (W3).cell? ⟨bx, 3, none⟩ = some (.slice (some ⟨kb, ko, none⟩) 2 kc) := CS.out.xb.cell rfl
  have le : be < (W3).heap.size := Nat.lt_of_lt_of_le CS.out.le CS.out.lB
  have lx : bx < (W3).heap.size := Nat.lt_of_lt_of_le CS.out.lx CS.out.lB
  have k0 : (W3).cell? ⟨kb, ko, none⟩ = some (.int .i64 (qta : Int)) := rkid_cell (j := 0) HKV.out Eta.out (HH.out.hw.trans (CS.out.bel.mono HH.out.hw.size))
  have k1 : (W3).cell? ⟨kb, ko + 1, none⟩ = some (.int .i64 (qtb : Int)) := rkid_cell (j := 1) HKV.out Etb.out (HH.out.hw.trans (CS.out.bel.mono HH.out.hw.size))
  go_upto_region 20 with fail
  go_still_tail 7, (by kernel_rfl)
  change wpList _ _ _ _ _ W3.drew
  have CS1 := Lib.hid (CS.out.drew)
  have hsW4 : W3.heap.size ≤ W3.drew.heap.size := Nat.le_refl _
  generalize W3.drew = W4 at *
  clear e0 x0 x1 x2 x3 le lx k0 k1
  have e0 : (W4).cell? ⟨be, 0, none⟩ = some (.slice (some ⟨b, off, none⟩) nl lc) := CS1.out.eb.cell rfl
  have x0 : (W4).cell? ⟨bx, 0, none⟩ = some (.int .i64 (33 : Int)) := CS1.out.xb.cell rfl
  have x1 : (W4).cell? ⟨bx, 1, none⟩ = some (.string (txt s)) := CS1.out.xb.cell rfl
  have x2 : (W4).cell? ⟨bx, 2, none⟩ = some (.int .i64 n) := CS1.out.xb.cell rfl
  have x3 : (W4).cell? ⟨bx, 3, none⟩ = some (.slice (some ⟨kb, ko, none⟩) 2 kc) := CS1.out.xb.cell rfl
  have le : be < (W4).heap.size := Nat.lt_of_lt_of_le CS1.out.le CS1.out.lB
  have lx : bx < (W4).heap.size := Nat.lt_of_lt_of_le CS1.out.lx CS1.out.lB
  have k0 : (W4).cell? ⟨kb, ko, none⟩ = some (.int .i64 (qta : Int)) := rkid_cell (j := 0) HKV.out Eta.out (HH.out.hw.trans (CS1.out.bel.mono HH.out.hw.size))
  have k1 : (W4).cell? ⟨kb, ko + 1, none⟩ = some (.int .i64 (qtb : Int)) := rkid_cell (j := 1) HKV.out Etb.out (HH.out.hw.trans (CS1.out.bel.mono HH.out.hw.size))
  have tokA : True := trivial
  have tokL : True := trivial
  go_upto_region 38 with (first
    | (have _t := tokA; go_at_call 30; go_must (refine (ih ta qta vs (m + 1) _ (RPre.kid (j := 0) HH.out rfl Sta.out Vta.out (by simp) (by omega) (by omega) CS1.out.bel)).mono ?_); clear tokA _t
       rintro e w5 ⟨ov, rfl, hk1, hk2⟩
       go_must (have CS2 := Lib.hid (CS1.out.call hk2))
       rw [HOA.out] at hk1
       go_must (have hsw5 := hk2.size)
       obtain ⟨aA, cA, rfl⟩ := hk1.form
       obtain ⟨nA, hnA⟩ : ∃ z, (oA).length = z := ⟨_, rfl⟩
       rw [hnA] at hk1 ⊢
       go_must (have bA : nA ≤ 1024 := by rw [← hnA, ← HOA.out]; have := cR_len f ta vs (m + 1); have := HSZ.out; simp only [sizeL] at this; omega)
       go_must (have HNA := Lib.hid hnA)
       go_must (have UA := Lib.hid hk1.block)
       go_must (have RA := Lib.hid hk1)
       clear hnA hk1
       clear hk2
       clear e0 x0 x1 x2 x3 le lx k0 k1
       go_must (have e0 : (w5).cell? ⟨be, 0, none⟩ = some (.slice (some ⟨b, off, none⟩) nl lc) := CS2.out.eb.cell rfl)
       go_must (have x0 : (w5).cell? ⟨bx, 0, none⟩ = some (.int .i64 (33 : Int)) := CS2.out.xb.cell rfl)
       go_must (have x1 : (w5).cell? ⟨bx, 1, none⟩ = some (.string (txt s)) := CS2.out.xb.cell rfl)
       go_must (have x2 : (w5).cell? ⟨bx, 2, none⟩ = some (.int .i64 n) := CS2.out.xb.cell rfl)
       go_must (have x3 : (w5).cell? ⟨bx, 3, none⟩ = some (.slice (some ⟨kb, ko, none⟩) 2 kc) := CS2.out.xb.cell rfl)
       go_must (have le : be < (w5).heap.size := Nat.lt_of_lt_of_le CS2.out.le CS2.out.lB)
       go_must (have lx : bx < (w5).heap.size := Nat.lt_of_lt_of_le CS2.out.lx CS2.out.lB)
       go_must (have k0 : (w5).cell? ⟨kb, ko, none⟩ = some (.int .i64 (qta : Int)) := rkid_cell (j := 0) HKV.out Eta.out (HH.out.hw.trans (CS2.out.bel.mono HH.out.hw.size)))
       go_must (have k1 : (w5).cell? ⟨kb, ko + 1, none⟩ = some (.int .i64 (qtb : Int)) := rkid_cell (j := 1) HKV.out Etb.out (HH.out.hw.trans (CS2.out.bel.mono HH.out.hw.size))))
    | (have _t := tokL; go_at_call 59; go_must (refine (LK.out _).mono ?_); clear tokL _t
       rintro e w' ⟨rfl, nq, rfl⟩
       go_must (have CS3 := Lib.hid (CS2.out.drewN nq))
       go_must (have RA3 := Lib.hid (RA.out.drewN nq))
       go_must (have hsw5q : w5.heap.size ≤ (w5.drewN nq).heap.size := Nat.le_refl _)
       clear e0 x0 x1 x2 x3 le lx k0 k1
       go_must (have e0 : ((w5.drewN nq)).cell? ⟨be, 0, none⟩ = some (.slice (some ⟨b, off, none⟩) nl lc) := CS3.out.eb.cell rfl)
       go_must (have x0 : ((w5.drewN nq)).cell? ⟨bx, 0, none⟩ = some (.int .i64 (33 : Int)) := CS3.out.xb.cell rfl)
       go_must (have x1 : ((w5.drewN nq)).cell? ⟨bx, 1, none⟩ = some (.string (txt s)) := CS3.out.xb.cell rfl)
       go_must (have x2 : ((w5.drewN nq)).cell? ⟨bx, 2, none⟩ = some (.int .i64 n) := CS3.out.xb.cell rfl)
       go_must (have x3 : ((w5.drewN nq)).cell? ⟨bx, 3, none⟩ = some (.slice (some ⟨kb, ko, none⟩) 2 kc) := CS3.out.xb.cell rfl)
       go_must (have le : be < ((w5.drewN nq)).heap.size := Nat.lt_of_lt_of_le CS3.out.le CS3.out.lB)
       go_must (have lx : bx < ((w5.drewN nq)).heap.size := Nat.lt_of_lt_of_le CS3.out.lx CS3.out.lB)
       go_must (have k0 : ((w5.drewN nq)).cell? ⟨kb, ko, none⟩ = some (.int .i64 (qta : Int)) := rkid_cell (j := 0) HKV.out Eta.out (HH.out.hw.trans (CS3.out.bel.mono HH.out.hw.size)))
       go_must (have k1 : ((w5.drewN nq)).cell? ⟨kb, ko + 1, none⟩ = some (.int .i64 (qtb : Int)) := rkid_cell (j := 1) HKV.out Etb.out (HH.out.hw.trans (CS3.out.bel.mono HH.out.hw.size))))
    | fail)
  generalize (w5.drewN nq) = W6 at *
  have tokY : True := trivial
  have tokJ : True := trivial
  go_upto_region 39 with (first
    | (have _t := tokY; go_at_call 55; go_must (refine (rins_next _).mono ?_); clear tokY _t
       rintro e w7 ⟨rfl, hb⟩
       go_must (have CS4 := Lib.hid (CS3.out.call hb))
       go_must (have RA4 := Lib.hid (RA3.out.below hb (Nat.le_refl _)))
       go_must (have hsw7 := hb.size)
       clear hb
       clear e0 x0 x1 x2 x3 le lx k0 k1
       go_must (have e0 : (w7).cell? ⟨be, 0, none⟩ = some (.slice (some ⟨b, off, none⟩) nl lc) := CS4.out.eb.cell rfl)
       go_must (have x0 : (w7).cell? ⟨bx, 0, none⟩ = some (.int .i64 (33 : Int)) := CS4.out.xb.cell rfl)
       go_must (have x1 : (w7).cell? ⟨bx, 1, none⟩ = some (.string (txt s)) := CS4.out.xb.cell rfl)
       go_must (have x2 : (w7).cell? ⟨bx, 2, none⟩ = some (.int .i64 n) := CS4.out.xb.cell rfl)
       go_must (have x3 : (w7).cell? ⟨bx, 3, none⟩ = some (.slice (some ⟨kb, ko, none⟩) 2 kc) := CS4.out.xb.cell rfl)
       go_must (have le : be < (w7).heap.size := Nat.lt_of_lt_of_le CS4.out.le CS4.out.lB)
       go_must (have lx : bx < (w7).heap.size := Nat.lt_of_lt_of_le CS4.out.lx CS4.out.lB)
       go_must (have k0 : (w7).cell? ⟨kb, ko, none⟩ = some (.int .i64 (qta : Int)) := rkid_cell (j := 0) HKV.out Eta.out (HH.out.hw.trans (CS4.out.bel.mono HH.out.hw.size)))
       go_must (have k1 : (w7).cell? ⟨kb, ko + 1, none⟩ = some (.int .i64 (qtb : Int)) := rkid_cell (j := 1) HKV.out Etb.out (HH.out.hw.trans (CS4.out.bel.mono HH.out.hw.size))))
    | (have _t := tokJ; go_at_call 55; go_must (refine (rins_take _).mono ?_); clear tokJ _t
       rintro e w8 ⟨rfl, hb⟩
       go_must (have CS5 := Lib.hid (CS4.out.call hb))
       go_must (have RA5 := Lib.hid (RA4.out.below hb (Nat.le_refl _)))
       go_must (have hsw8 := hb.size)
       clear hb
       clear e0 x0 x1 x2 x3 le lx k0 k1
       go_must (have e0 : (w8).cell? ⟨be, 0, none⟩ = some (.slice (some ⟨b, off, none⟩) nl lc) := CS5.out.eb.cell rfl)
       go_must (have x0 : (w8).cell? ⟨bx, 0, none⟩ = some (.int .i64 (33 : Int)) := CS5.out.xb.cell rfl)
       go_must (have x1 : (w8).cell? ⟨bx, 1, none⟩ = some (.string (txt s)) := CS5.out.xb.cell rfl)
       go_must (have x2 : (w8).cell? ⟨bx, 2, none⟩ = some (.int .i64 n) := CS5.out.xb.cell rfl)
       go_must (have x3 : (w8).cell? ⟨bx, 3, none⟩ = some (.slice (some ⟨kb, ko, none⟩) 2 kc) := CS5.out.xb.cell rfl)
       go_must (have le : be < (w8).heap.size := Nat.lt_of_lt_of_le CS5.out.le CS5.out.lB)
       go_must (have lx : bx < (w8).heap.size := Nat.lt_of_lt_of_le CS5.out.lx CS5.out.lB)
       go_must (have k0 : (w8).cell? ⟨kb, ko, none⟩ = some (.int .i64 (qta : Int)) := rkid_cell (j := 0) HKV.out Eta.out (HH.out.hw.trans (CS5.out.bel.mono HH.out.hw.size)))
       go_must (have k1 : (w8).cell? ⟨kb, ko + 1, none⟩ = some (.int .i64 (qtb : Int)) := rkid_cell (j := 1) HKV.out Etb.out (HH.out.hw.trans (CS5.out.bel.mono HH.out.hw.size))))
    | fail)
  have CS6 := Lib.hid ((CS5.out.alloc (.cells #[.int .i64 39, .int .i64 0, .int .i64 0, .string ⟨#[]⟩] 46)).alloc (.cells #[.int .i64 40, .int .i64 0, .int .i64 0, .string ⟨#[]⟩] 46))
  have RA6 := Lib.hid ((RA5.out.alloc (.cells #[.int .i64 39, .int .i64 0, .int .i64 0, .string ⟨#[]⟩] 46)).alloc (.cells #[.int .i64 40, .int .i64 0, .int .i64 0, .string ⟨#[]⟩] 46))
  have By := Lib.hid ((Blk.new w8 46 #[.int .i64 39, .int .i64 0, .int .i64 0, .string ⟨#[]⟩]).alloc (.cells #[.int .i64 40, .int .i64 0, .int .i64 0, .string ⟨#[]⟩] 46))
  have Bt := Lib.hid (Blk.new_ (w := w8.alloc (.cells #[.int .i64 39, .int .i64 0, .int .i64 0, .string ⟨#[]⟩] 46)) (g := w8.heap.size + 1) (by simp) 46 #[.int .i64 40, .int .i64 0, .int .i64 0, .string ⟨#[]⟩])
  have hsW9 : w8.heap.size + 1 < ((w8.alloc (.cells #[.int .i64 39, .int .i64 0, .int .i64 0, .string ⟨#[]⟩] 46)).alloc (.cells #[.int .i64 40, .int .i64 0, .int .i64 0, .string ⟨#[]⟩] 46)).heap.size := by simp
  generalize (w8.alloc (.cells #[.int .i64 39, .int .i64 0, .int .i64 0, .string ⟨#[]⟩] 46)).alloc (.cells #[.int .i64 40, .int .i64 0, .int .i64 0, .string ⟨#[]⟩] 46) = W9 at *
  clear e0 x0 x1 x2 x3 le lx k0 k1
  have e0 : (W9).cell? ⟨be, 0, none⟩ = some (.slice (some ⟨b, off, none⟩) nl lc) := CS6.out.eb.cell rfl
  have x0 : (W9).cell? ⟨bx, 0, none⟩ = some (.int .i64 (33 : Int)) := CS6.out.xb.cell rfl
  have x1 : (W9).cell? ⟨bx, 1, none⟩ = some (.string (txt s)) := CS6.out.xb.cell rfl
  have x2 : (W9).cell? ⟨bx, 2, none⟩ = some (.int .i64 n) := CS6.out.xb.cell rfl
  have x3 : (W9).cell? ⟨bx, 3, none⟩ = some (.slice (some ⟨kb, ko, none⟩) 2 kc) := CS6.out.xb.cell rfl
  have le : be < (W9).heap.size := Nat.lt_of_lt_of_le CS6.out.le CS6.out.lB
  have lx : bx < (W9).heap.size := Nat.lt_of_lt_of_le CS6.out.lx CS6.out.lB
  have k0 : (W9).cell? ⟨kb, ko, none⟩ = some (.int .i64 (qta : Int)) := rkid_cell (j := 0) HKV.out Eta.out (HH.out.hw.trans (CS6.out.bel.mono HH.out.hw.size))
  have k1 : (W9).cell? ⟨kb, ko + 1, none⟩ = some (.int .i64 (qtb : Int)) := rkid_cell (j := 1) HKV.out Etb.out (HH.out.hw.trans (CS6.out.bel.mono HH.out.hw.size))
  have y0 : (W9).cell? ⟨w8.heap.size, 0, none⟩ = some (.int .i64 39) := By.out.cell rfl
  have y1 : (W9).cell? ⟨w8.heap.size, 1, none⟩ = some (.int .i64 0) := By.out.cell rfl
  have y2 : (W9).cell? ⟨w8.heap.size, 2, none⟩ = some (.int .i64 0) := By.out.cell rfl
  have y3 : (W9).cell? ⟨w8.heap.size, 3, none⟩ = some (.string ⟨#[]⟩) := By.out.cell rfl
  have ly : w8.heap.size < (W9).heap.size := By.out.lt
  have yf0 : (W9).frozen? ⟨w8.heap.size, 0, none⟩ = false := By.out.frozen 0
  have yf1 : (W9).frozen? ⟨w8.heap.size, 1, none⟩ = false := By.out.frozen 1
  have yf2 : (W9).frozen? ⟨w8.heap.size, 2, none⟩ = false := By.out.frozen 2
  have yf3 : (W9).frozen? ⟨w8.heap.size, 3, none⟩ = false := By.out.frozen 3
  have t0 : (W9).cell? ⟨(w8.heap.size + 1), 0, none⟩ = some (.int .i64 40) := Bt.out.cell rfl
  have t1 : (W9).cell? ⟨(w8.heap.size + 1), 1, none⟩ = some (.int .i64 0) := Bt.out.cell rfl
  have t2 : (W9).cell? ⟨(w8.heap.size + 1), 2, none⟩ = some (.int .i64 0) := Bt.out.cell rfl
  have t3 : (W9).cell? ⟨(w8.heap.size + 1), 3, none⟩ = some (.string ⟨#[]⟩) := Bt.out.cell rfl
  have lt : (w8.heap.size + 1) < (W9).heap.size := Bt.out.lt
  have tf0 : (W9).frozen? ⟨(w8.heap.size + 1), 0, none⟩ = false := Bt.out.frozen 0
  have tf1 : (W9).frozen? ⟨(w8.heap.size + 1), 1, none⟩ = false := Bt.out.frozen 1
  have tf2 : (W9).frozen? ⟨(w8.heap.size + 1), 2, none⟩ = false := Bt.out.frozen 2
  have tf3 : (W9).frozen? ⟨(w8.heap.size + 1), 3, none⟩ = false := Bt.out.frozen 3
  go_still_tail 5, (by kernel_rfl)
  change wpList _ _ _ _ _ W9.drew
  have CS7 := Lib.hid (CS6.out.drew)
  have RA7 := Lib.hid (RA6.out.drew)
  have By7 := Lib.hid (By.out.drwC)
  have Bt7 := Lib.hid (Bt.out.drwC)
  have hsW10 : W9.heap.size ≤ W9.drew.heap.size := Nat.le_refl _
  generalize W9.drew = W10 at *
  clear e0 x0 x1 x2 x3 le lx k0 k1 y0 y1 y2 y3 ly yf0 yf1 yf2 yf3 t0 t1 t2 t3 lt tf0 tf1 tf2 tf3
  have e0 : (W10).cell? ⟨be, 0, none⟩ = some (.slice (some ⟨b, off, none⟩) nl lc) := CS7.out.eb.cell rfl
  have x0 : (W10).cell? ⟨bx, 0, none⟩ = some (.int .i64 (33 : Int)) := CS7.out.xb.cell rfl
  have x1 : (W10).cell? ⟨bx, 1, none⟩ = some (.string (txt s)) := CS7.out.xb.cell rfl
  have x2 : (W10).cell? ⟨bx, 2, none⟩ = some (.int .i64 n) := CS7.out.xb.cell rfl
  have x3 : (W10).cell? ⟨bx, 3, none⟩ = some (.slice (some ⟨kb, ko, none⟩) 2 kc) := CS7.out.xb.cell rfl
  have le : be < (W10).heap.size := Nat.lt_of_lt_of_le CS7.out.le CS7.out.lB
  have lx : bx < (W10).heap.size := Nat.lt_of_lt_of_le CS7.out.lx CS7.out.lB
  have k0 : (W10).cell? ⟨kb, ko, none⟩ = some (.int .i64 (qta : Int)) := rkid_cell (j := 0) HKV.out Eta.out (HH.out.hw.trans (CS7.out.bel.mono HH.out.hw.size))
  have k1 : (W10).cell? ⟨kb, ko + 1, none⟩ = some (.int .i64 (qtb : Int)) := rkid_cell (j := 1) HKV.out Etb.out (HH.out.hw.trans (CS7.out.bel.mono HH.out.hw.size))
  have y0 : (W10).cell? ⟨w8.heap.size, 0, none⟩ = some (.int .i64 39) := By7.out.cell rfl
  have y1 : (W10).cell? ⟨w8.heap.size, 1, none⟩ = some (.int .i64 0) := By7.out.cell rfl
  have y2 : (W10).cell? ⟨w8.heap.size, 2, none⟩ = some (.int .i64 0) := By7.out.cell rfl
  have y3 : (W10).cell? ⟨w8.heap.size, 3, none⟩ = some (.string ⟨#[]⟩) := By7.out.cell rfl
  have ly : w8.heap.size < (W10).heap.size := By7.out.lt
  have yf0 : (W10).frozen? ⟨w8.heap.size, 0, none⟩ = false := By7.out.frozen 0
  have yf1 : (W10).frozen? ⟨w8.heap.size, 1, none⟩ = false := By7.out.frozen 1
  have yf2 : (W10).frozen? ⟨w8.heap.size, 2, none⟩ = false := By7.out.frozen 2
  have yf3 : (W10).frozen? ⟨w8.heap.size, 3, none⟩ = false := By7.out.frozen 3
  have t0 : (W10).cell? ⟨(w8.heap.size + 1), 0, none⟩ = some (.int .i64 40) := Bt7.out.cell rfl
  have t1 : (W10).cell? ⟨(w8.heap.size + 1), 1, none⟩ = some (.int .i64 0) := Bt7.out.cell rfl
  have t2 : (W10).cell? ⟨(w8.heap.size + 1), 2, none⟩ = some (.int .i64 0) := Bt7.out.cell rfl
  have t3 : (W10).cell? ⟨(w8.heap.size + 1), 3, none⟩ = some (.string ⟨#[]⟩) := Bt7.out.cell rfl
  have lt : (w8.heap.size + 1) < (W10).heap.size := Bt7.out.lt
  have tf0 : (W10).frozen? ⟨(w8.heap.size + 1), 0, none⟩ = false := Bt7.out.frozen 0
  have tf1 : (W10).frozen? ⟨(w8.heap.size + 1), 1, none⟩ = false := Bt7.out.frozen 1
  have tf2 : (W10).frozen? ⟨(w8.heap.size + 1), 2, none⟩ = false := Bt7.out.frozen 2
  have tf3 : (W10).frozen? ⟨(w8.heap.size + 1), 3, none⟩ = false := Bt7.out.frozen 3
  have tokB : True := trivial
  go_upto_region 40 with (first
    | (have _t := tokB; go_at_call 30; go_must (refine (ih tb qtb (vs ++ [s]) (1) _ (RPre.kid (j := 1) HH.out rfl Stb.out Vtb.out (by simp) (by omega) (by omega) CS7.out.bel)).mono ?_); clear tokB _t
       rintro e w11 ⟨ov, rfl, hk1, hk2⟩
       go_must (have CS8 := Lib.hid (CS7.out.call hk2))
       rw [HOB.out] at hk1
       go_must (have RA8 := Lib.hid (RA7.out.below hk2 (Nat.le_refl _)))
       go_must (have By8 := Lib.hid (By7.out.below hk2 By7.out.lt))
       go_must (have Bt8 := Lib.hid (Bt7.out.below hk2 Bt7.out.lt))
       go_must (have hsw11 := hk2.size)
       obtain ⟨aB, cB, rfl⟩ := hk1.form
       obtain ⟨nB, hnB⟩ : ∃ z, (oB).length = z := ⟨_, rfl⟩
       rw [hnB] at hk1 ⊢
       go_must (have bB : nB ≤ 1024 := by rw [← hnB, ← HOB.out]; have := cR_len f tb (vs ++ [s]) (1); have := HSZ.out; simp only [sizeL] at this; omega)
       go_must (have HNB := Lib.hid hnB)
       go_must (have UB := Lib.hid hk1.block)
       go_must (have RB := Lib.hid hk1)
       clear hnB hk1
       clear hk2
       clear e0 x0 x1 x2 x3 le lx k0 k1 y0 y1 y2 y3 ly yf0 yf1 yf2 yf3 t0 t1 t2 t3 lt tf0 tf1 tf2 tf3
       go_must (have e0 : (w11).cell? ⟨be, 0, none⟩ = some (.slice (some ⟨b, off, none⟩) nl lc) := CS8.out.eb.cell rfl)
       go_must (have x0 : (w11).cell? ⟨bx, 0, none⟩ = some (.int .i64 (33 : Int)) := CS8.out.xb.cell rfl)
       go_must (have x1 : (w11).cell? ⟨bx, 1, none⟩ = some (.string (txt s)) := CS8.out.xb.cell rfl)
       go_must (have x2 : (w11).cell? ⟨bx, 2, none⟩ = some (.int .i64 n) := CS8.out.xb.cell rfl)
       go_must (have x3 : (w11).cell? ⟨bx, 3, none⟩ = some (.slice (some ⟨kb, ko, none⟩) 2 kc) := CS8.out.xb.cell rfl)
       go_must (have le : be < (w11).heap.size := Nat.lt_of_lt_of_le CS8.out.le CS8.out.lB)
       go_must (have lx : bx < (w11).heap.size := Nat.lt_of_lt_of_le CS8.out.lx CS8.out.lB)
       go_must (have k0 : (w11).cell? ⟨kb, ko, none⟩ = some (.int .i64 (qta : Int)) := rkid_cell (j := 0) HKV.out Eta.out (HH.out.hw.trans (CS8.out.bel.mono HH.out.hw.size)))
       go_must (have k1 : (w11).cell? ⟨kb, ko + 1, none⟩ = some (.int .i64 (qtb : Int)) := rkid_cell (j := 1) HKV.out Etb.out (HH.out.hw.trans (CS8.out.bel.mono HH.out.hw.size)))
       go_must (have y0 : (w11).cell? ⟨w8.heap.size, 0, none⟩ = some (.int .i64 39) := By8.out.cell rfl)
       go_must (have y1 : (w11).cell? ⟨w8.heap.size, 1, none⟩ = some (.int .i64 0) := By8.out.cell rfl)
       go_must (have y2 : (w11).cell? ⟨w8.heap.size, 2, none⟩ = some (.int .i64 0) := By8.out.cell rfl)
       go_must (have y3 : (w11).cell? ⟨w8.heap.size, 3, none⟩ = some (.string ⟨#[]⟩) := By8.out.cell rfl)
       go_must (have ly : w8.heap.size < (w11).heap.size := By8.out.lt)
       go_must (have yf0 : (w11).frozen? ⟨w8.heap.size, 0, none⟩ = false := By8.out.frozen 0)
       go_must (have yf1 : (w11).frozen? ⟨w8.heap.size, 1, none⟩ = false := By8.out.frozen 1)
       go_must (have yf2 : (w11).frozen? ⟨w8.heap.size, 2, none⟩ = false := By8.out.frozen 2)
       go_must (have yf3 : (w11).frozen? ⟨w8.heap.size, 3, none⟩ = false := By8.out.frozen 3)
       go_must (have t0 : (w11).cell? ⟨(w8.heap.size + 1), 0, none⟩ = some (.int .i64 40) := Bt8.out.cell rfl)
       go_must (have t1 : (w11).cell? ⟨(w8.heap.size + 1), 1, none⟩ = some (.int .i64 0) := Bt8.out.cell rfl)
       go_must (have t2 : (w11).cell? ⟨(w8.heap.size + 1), 2, none⟩ = some (.int .i64 0) := Bt8.out.cell rfl)
       go_must (have t3 : (w11).cell? ⟨(w8.heap.size + 1), 3, none⟩ = some (.string ⟨#[]⟩) := Bt8.out.cell rfl)
       go_must (have lt : (w8.heap.size + 1) < (w11).heap.size := Bt8.out.lt)
       go_must (have tf0 : (w11).frozen? ⟨(w8.heap.size + 1), 0, none⟩ = false := Bt8.out.frozen 0)
       go_must (have tf1 : (w11).frozen? ⟨(w8.heap.size + 1), 1, none⟩ = false := Bt8.out.frozen 1)
       go_must (have tf2 : (w11).frozen? ⟨(w8.heap.size + 1), 2, none⟩ = false := Bt8.out.frozen 2)
       go_must (have tf3 : (w11).frozen? ⟨(w8.heap.size + 1), 3, none⟩ = false := Bt8.out.frozen 3))
    | fail)
  go_upto_region 41 with fail
  generalize hW12 : World.setCell _ _ _ = W12
  have CS9 : Hid (CSt W W12 (.slice (some ⟨b, off, none⟩) nl lc) be bx #[.int .i64 (33 : Int), .string (txt s), .int .i64 n, .slice (some ⟨kb, ko, none⟩) 2 kc] bs) := Lib.hid (by rw [← hW12]; exact (CS8.out.set_ (g := (w8.heap.size + 1)) (by omega) _ _))
  have RA9 : Hid (Own1 W12 W4.heap.size 46 4 Ins.Is (.slice aA nA cA) oA) := Lib.hid (by rw [← hW12]; exact (RA8.out.setOther (p := ⟨(w8.heap.size + 1), 1, none⟩) (fun e => by have := UA.out ((w8.heap.size + 1)) e; omega) _))
  have RB9 : Hid (Own1 W12 W10.heap.size 46 4 Ins.Is (.slice aB nB cB) oB) := Lib.hid (by rw [← hW12]; exact (RB.out.setOther (p := ⟨(w8.heap.size + 1), 1, none⟩) (fun e => by have := UB.out ((w8.heap.size + 1)) e; omega) _))
  have By9 : Hid (Blk W12 w8.heap.size 46 #[.int .i64 39, .int .i64 0, .int .i64 0, .string ⟨#[]⟩]) := Lib.hid (by rw [← hW12]; exact (By8.out.far (p := ⟨(w8.heap.size + 1), 1, none⟩) (by show _ ≠ (w8.heap.size + 1); omega) _))
  have Bt9 : Hid (Blk W12 (w8.heap.size + 1) 46 #[.int .i64 40, .int .i64 ((nA : Int) + 1), .int .i64 0, .string ⟨#[]⟩]) := Lib.hid (by rw [← hW12]; have := (Bt8.out.set_ 1 (.int .i64 ((nA : Int) + 1))); simpa using this)
  have hsW12 : w11.heap.size ≤ W12.heap.size := by rw [← hW12]; simp
  clear hW12
  clear e0 x0 x1 x2 x3 le lx k0 k1 y0 y1 y2 y3 ly yf0 yf1 yf2 yf3 t0 t1 t2 t3 lt tf0 tf1 tf2 tf3
  have e0 : (W12).cell? ⟨be, 0, none⟩ = some (.slice (some ⟨b, off, none⟩) nl lc) := CS9.out.eb.cell rfl
  have x0 : (W12).cell? ⟨bx, 0, none⟩ = some (.int .i64 (33 : Int)) := CS9.out.xb.cell rfl
  have x1 : (W12).cell? ⟨bx, 1, none⟩ = some (.string (txt s)) := CS9.out.xb.cell rfl
  have x2 : (W12).cell? ⟨bx, 2, none⟩ = some (.int .i64 n) := CS9.out.xb.cell rfl
  have x3 : (W12).cell? ⟨bx, 3, none⟩ = some (.slice (some ⟨kb, ko, none⟩) 2 kc) := CS9.out.xb.cell rfl
  have le : be < (W12).heap.size := Nat.lt_of_lt_of_le CS9.out.le CS9.out.lB
  have lx : bx < (W12).heap.size := Nat.lt_of_lt_of_le CS9.out.lx CS9.out.lB
  have k0 : (W12).cell? ⟨kb, ko, none⟩ = some (.int .i64 (qta : Int)) := rkid_cell (j := 0) HKV.out Eta.out (HH.out.hw.trans (CS9.out.bel.mono HH.out.hw.size))
  have k1 : (W12).cell? ⟨kb, ko + 1, none⟩ = some (.int .i64 (qtb : Int)) := rkid_cell (j := 1) HKV.out Etb.out (HH.out.hw.trans (CS9.out.bel.mono HH.out.hw.size))
  have y0 : (W12).cell? ⟨w8.heap.size, 0, none⟩ = some (.int .i64 39) := By9.out.cell rfl
  have y1 : (W12).cell? ⟨w8.heap.size, 1, none⟩ = some (.int .i64 0) := By9.out.cell rfl
  have y2 : (W12).cell? ⟨w8.heap.size, 2, none⟩ = some (.int .i64 0) := By9.out.cell rfl
  have y3 : (W12).cell? ⟨w8.heap.size, 3, none⟩ = some (.string ⟨#[]⟩) := By9.out.cell rfl
  have ly : w8.heap.size < (W12).heap.size := By9.out.lt
  have yf0 : (W12).frozen? ⟨w8.heap.size, 0, none⟩ = false := By9.out.frozen 0
  have yf1 : (W12).frozen? ⟨w8.heap.size, 1, none⟩ = false := By9.out.frozen 1
  have yf2 : (W12).frozen? ⟨w8.heap.size, 2, none⟩ = false := By9.out.frozen 2
  have yf3 : (W12).frozen? ⟨w8.heap.size, 3, none⟩ = false := By9.out.frozen 3
  have t0 : (W12).cell? ⟨(w8.heap.size + 1), 0, none⟩ = some (.int .i64 40) := Bt9.out.cell rfl
  have t1 : (W12).cell? ⟨(w8.heap.size + 1), 1, none⟩ = some (.int .i64 ((nA : Int) + 1)) := Bt9.out.cell rfl
  have t2 : (W12).cell? ⟨(w8.heap.size + 1), 2, none⟩ = some (.int .i64 0) := Bt9.out.cell rfl
  have t3 : (W12).cell? ⟨(w8.heap.size + 1), 3, none⟩ = some (.string ⟨#[]⟩) := Bt9.out.cell rfl
  have lt : (w8.heap.size + 1) < (W12).heap.size := Bt9.out.lt
  have tf0 : (W12).frozen? ⟨(w8.heap.size + 1), 0, none⟩ = false := Bt9.out.frozen 0
  have tf1 : (W12).frozen? ⟨(w8.heap.size + 1), 1, none⟩ = false := Bt9.out.frozen 1
  have tf2 : (W12).frozen? ⟨(w8.heap.size + 1), 2, none⟩ = false := Bt9.out.frozen 2
  have tf3 : (W12).frozen? ⟨(w8.heap.size + 1), 3, none⟩ = false := Bt9.out.frozen 3
  go_upto_region 42 with fail
  generalize hW13 : World.setCell _ _ _ = W13
  have CS10 : Hid (CSt W W13 (.slice (some ⟨b, off, none⟩) nl lc) be bx #[.int .i64 (33 : Int), .string (txt s), .int .i64 n, .slice (some ⟨kb, ko, none⟩) 2 kc] bs) := Lib.hid (by rw [← hW13]; exact (CS9.out.set_ (g := w8.heap.size) (by omega) _ _))
  have RA10 : Hid (Own1 W13 W4.heap.size 46 4 Ins.Is (.slice aA nA cA) oA) := Lib.hid (by rw [← hW13]; exact (RA9.out.setOther (p := ⟨w8.heap.size, 1, none⟩) (fun e => by have := UA.out (w8.heap.size) e; omega) _))
  have RB10 : Hid (Own1 W13 W10.heap.size 46 4 Ins.Is (.slice aB nB cB) oB) := Lib.hid (by rw [← hW13]; exact (RB9.out.setOther (p := ⟨w8.heap.size, 1, none⟩) (fun e => by have := UB.out (w8.heap.size) e; omega) _))
  have Bt10 : Hid (Blk W13 (w8.heap.size + 1) 46 #[.int .i64 40, .int .i64 ((nA : Int) + 1), .int .i64 0, .string ⟨#[]⟩]) := Lib.hid (by rw [← hW13]; exact (Bt9.out.far (p := ⟨w8.heap.size, 1, none⟩) (by show _ ≠ w8.heap.size; omega) _))
  have By10 : Hid (Blk W13 w8.heap.size 46 #[.int .i64 39, .int .i64 ((nA : Int) + 2 + (nB : Int) + 1), .int .i64 0, .string ⟨#[]⟩]) := Lib.hid (by rw [← hW13]; have := (By9.out.set_ 1 (.int .i64 ((nA : Int) + 2 + (nB : Int) + 1))); simpa using this)
  have hsW13 : W12.heap.size ≤ W13.heap.size := by rw [← hW13]; simp
  clear hW13
  clear e0 x0 x1 x2 x3 le lx k0 k1 y0 y1 y2 y3 ly yf0 yf1 yf2 yf3 t0 t1 t2 t3 lt tf0 tf1 tf2 tf3
  have e0 : (W13).cell? ⟨be, 0, none⟩ = some (.slice (some ⟨b, off, none⟩) nl lc) := CS10.out.eb.cell rfl
  have x0 : (W13).cell? ⟨bx, 0, none⟩ = some (.int .i64 (33 : Int)) := CS10.out.xb.cell rfl
  have x1 : (W13).cell? ⟨bx, 1, none⟩ = some (.string (txt s)) := CS10.out.xb.cell rfl
  have x2 : (W13).cell? ⟨bx, 2, none⟩ = some (.int .i64 n) := CS10.out.xb.cell rfl
  have x3 : (W13).cell? ⟨bx, 3, none⟩ = some (.slice (some ⟨kb, ko, none⟩) 2 kc) := CS10.out.xb.cell rfl
  have le : be < (W13).heap.size := Nat.lt_of_lt_of_le CS10.out.le CS10.out.lB
  have lx : bx < (W13).heap.size := Nat.lt_of_lt_of_le CS10.out.lx CS10.out.lB
  have k0 : (W13).cell? ⟨kb, ko, none⟩ = some (.int .i64 (qta : Int)) := rkid_cell (j := 0) HKV.out Eta.out (HH.out.hw.trans (CS10.out.bel.mono HH.out.hw.size))
  have k1 : (W13).cell? ⟨kb, ko + 1, none⟩ = some (.int .i64 (qtb : Int)) := rkid_cell (j := 1) HKV.out Etb.out (HH.out.hw.trans (CS10.out.bel.mono HH.out.hw.size))
  have y0 : (W13).cell? ⟨w8.heap.size, 0, none⟩ = some (.int .i64 39) := By10.out.cell rfl
  have y1 : (W13).cell? ⟨w8.heap.size, 1, none⟩ = some (.int .i64 ((nA : Int) + 2 + (nB : Int) + 1)) := By10.out.cell rfl
  have y2 : (W13).cell? ⟨w8.heap.size, 2, none⟩ = some (.int .i64 0) := By10.out.cell rfl
  have y3 : (W13).cell? ⟨w8.heap.size, 3, none⟩ = some (.string ⟨#[]⟩) := By10.out.cell rfl
  have ly : w8.heap.size < (W13).heap.size := By10.out.lt
  have yf0 : (W13).frozen? ⟨w8.heap.size, 0, none⟩ = false := By10.out.frozen 0
  have yf1 : (W13).frozen? ⟨w8.heap.size, 1, none⟩ = false := By10.out.frozen 1
  have yf2 : (W13).frozen? ⟨w8.heap.size, 2, none⟩ = false := By10.out.frozen 2
  have yf3 : (W13).frozen? ⟨w8.heap.size, 3, none⟩ = false := By10.out.frozen 3
  have t0 : (W13).cell? ⟨(w8.heap.size + 1), 0, none⟩ = some (.int .i64 40) := Bt10.out.cell rfl
  have t1 : (W13).cell? ⟨(w8.heap.size + 1), 1, none⟩ = some (.int .i64 ((nA : Int) + 1)) := Bt10.out.cell rfl
  have t2 : (W13).cell? ⟨(w8.heap.size + 1), 2, none⟩ = some (.int .i64 0) := Bt10.out.cell rfl
  have t3 : (W13).cell? ⟨(w8.heap.size + 1), 3, none⟩ = some (.string ⟨#[]⟩) := Bt10.out.cell rfl
  have lt : (w8.heap.size + 1) < (W13).heap.size := Bt10.out.lt
  have tf0 : (W13).frozen? ⟨(w8.heap.size + 1), 0, none⟩ = false := Bt10.out.frozen 0
  have tf1 : (W13).frozen? ⟨(w8.heap.size + 1), 1, none⟩ = false := Bt10.out.frozen 1
  have tf2 : (W13).frozen? ⟨(w8.heap.size + 1), 2, none⟩ = false := Bt10.out.frozen 2
  have tf3 : (W13).frozen? ⟨(w8.heap.size + 1), 3, none⟩ = false := Bt10.out.frozen 3
  go_cut [11] from 183 to 193 (fun v11 wx => Hid (∃ base, bs ≤ base ∧ base ≤ wx.heap.size ∧ Own1 wx base 46 4 Ins.Is v11 (thenN (oA ++ [insI 37 0, insI 39 ((nA : Int) + 2 + (nB : Int) + 1)]) oB) ∧ CSt W wx (.slice (some ⟨b, off, none⟩) nl lc) be bx #[.int .i64 (33 : Int), .string (txt s), .int .i64 n, .slice (some ⟨kb, ko, none⟩) 2 kc] bs ∧ Blk wx (w8.heap.size + 1) 46 #[.int .i64 40, .int .i64 ((nA : Int) + 1), .int .i64 0, .string ⟨#[]⟩]))
  case first =>
    have tokW : True := trivial
    have tokI : True := trivial
    have tokP : True := trivial
    have tokT : True := trivial
    have CS11 := Lib.hid (CS10.out.drew)
    have RA11 := Lib.hid (RA10.out.drew)
    have RB11 := Lib.hid (RB10.out.drew)
    have By11 := Lib.hid (By10.out.drwC)
    have Bt11 := Lib.hid (Bt10.out.drwC)
    have hsd : W13.heap.size ≤ W13.drew.heap.size := Nat.le_refl _
    go_region_law (first
      | (have _t := tokW; go_simp; go_at_call 56; go_must (refine (WK.out _).mono ?_); clear tokW _t
         rintro e w' ⟨rfl, nq, rfl⟩
         go_must (have CS23 := Lib.hid (CS10.out.drewN (1 + nq)))
         go_must (have RA23 := Lib.hid (RA10.out.drewN (1 + nq)))
         go_must (have RB23 := Lib.hid (RB10.out.drewN (1 + nq)))
         go_must (have By23 := Lib.hid (By10.out.drwN (1 + nq)))
         go_must (have Bt23 := Lib.hid (Bt10.out.drwN (1 + nq)))
         go_must (have hsq : W13.heap.size ≤ (W13.drewN (1 + nq)).heap.size := Nat.le_refl _)
         clear e0 x0 x1 x2 x3 le lx k0 k1 y0 y1 y2 y3 ly yf0 yf1 yf2 yf3 t0 t1 t2 t3 lt tf0 tf1 tf2 tf3
         go_must (have e0 : ((W13.drewN (1 + nq))).cell? ⟨be, 0, none⟩ = some (.slice (some ⟨b, off, none⟩) nl lc) := CS23.out.eb.cell rfl)
         go_must (have x0 : ((W13.drewN (1 + nq))).cell? ⟨bx, 0, none⟩ = some (.int .i64 (33 : Int)) := CS23.out.xb.cell rfl)
         go_must (have x1 : ((W13.drewN (1 + nq))).cell? ⟨bx, 1, none⟩ = some (.string (txt s)) := CS23.out.xb.cell rfl)
         go_must (have x2 : ((W13.drewN (1 + nq))).cell? ⟨bx, 2, none⟩ = some (.int .i64 n) := CS23.out.xb.cell rfl)
         go_must (have x3 : ((W13.drewN (1 + nq))).cell? ⟨bx, 3, none⟩ = some (.slice (some ⟨kb, ko, none⟩) 2 kc) := CS23.out.xb.cell rfl)
         go_must (have le : be < ((W13.drewN (1 + nq))).heap.size := Nat.lt_of_lt_of_le CS23.out.le CS23.out.lB)
         go_must (have lx : bx < ((W13.drewN (1 + nq))).heap.size := Nat.lt_of_lt_of_le CS23.out.lx CS23.out.lB)
         go_must (have k0 : ((W13.drewN (1 + nq))).cell? ⟨kb, ko, none⟩ = some (.int .i64 (qta : Int)) := rkid_cell (j := 0) HKV.out Eta.out (HH.out.hw.trans (CS23.out.bel.mono HH.out.hw.size)))
         go_must (have k1 : ((W13.drewN (1 + nq))).cell? ⟨kb, ko + 1, none⟩ = some (.int .i64 (qtb : Int)) := rkid_cell (j := 1) HKV.out Etb.out (HH.out.hw.trans (CS23.out.bel.mono HH.out.hw.size)))
         go_must (have y0 : ((W13.drewN (1 + nq))).cell? ⟨w8.heap.size, 0, none⟩ = some (.int .i64 39) := By23.out.cell rfl)
         go_must (have y1 : ((W13.drewN (1 + nq))).cell? ⟨w8.heap.size, 1, none⟩ = some (.int .i64 ((nA : Int) + 2 + (nB : Int) + 1)) := By23.out.cell rfl)
         go_must (have y2 : ((W13.drewN (1 + nq))).cell? ⟨w8.heap.size, 2, none⟩ = some (.int .i64 0) := By23.out.cell rfl)
         go_must (have y3 : ((W13.drewN (1 + nq))).cell? ⟨w8.heap.size, 3, none⟩ = some (.string ⟨#[]⟩) := By23.out.cell rfl)
         go_must (have ly : w8.heap.size < ((W13.drewN (1 + nq))).heap.size := By23.out.lt)
         go_must (have yf0 : ((W13.drewN (1 + nq))).frozen? ⟨w8.heap.size, 0, none⟩ = false := By23.out.frozen 0)
         go_must (have yf1 : ((W13.drewN (1 + nq))).frozen? ⟨w8.heap.size, 1, none⟩ = false := By23.out.frozen 1)
         go_must (have yf2 : ((W13.drewN (1 + nq))).frozen? ⟨w8.heap.size, 2, none⟩ = false := By23.out.frozen 2)
         go_must (have yf3 : ((W13.drewN (1 + nq))).frozen? ⟨w8.heap.size, 3, none⟩ = false := By23.out.frozen 3)
         go_must (have t0 : ((W13.drewN (1 + nq))).cell? ⟨(w8.heap.size + 1), 0, none⟩ = some (.int .i64 40) := Bt23.out.cell rfl)
         go_must (have t1 : ((W13.drewN (1 + nq))).cell? ⟨(w8.heap.size + 1), 1, none⟩ = some (.int .i64 ((nA : Int) + 1)) := Bt23.out.cell rfl)
         go_must (have t2 : ((W13.drewN (1 + nq))).cell? ⟨(w8.heap.size + 1), 2, none⟩ = some (.int .i64 0) := Bt23.out.cell rfl)
         go_must (have t3 : ((W13.drewN (1 + nq))).cell? ⟨(w8.heap.size + 1), 3, none⟩ = some (.string ⟨#[]⟩) := Bt23.out.cell rfl)
         go_must (have lt : (w8.heap.size + 1) < ((W13.drewN (1 + nq))).heap.size := Bt23.out.lt)
         go_must (have tf0 : ((W13.drewN (1 + nq))).frozen? ⟨(w8.heap.size + 1), 0, none⟩ = false := Bt23.out.frozen 0)
         go_must (have tf1 : ((W13.drewN (1 + nq))).frozen? ⟨(w8.heap.size + 1), 1, none⟩ = false := Bt23.out.frozen 1)
         go_must (have tf2 : ((W13.drewN (1 + nq))).frozen? ⟨(w8.heap.size + 1), 2, none⟩ = false := Bt23.out.frozen 2)
         go_must (have tf3 : ((W13.drewN (1 + nq))).frozen? ⟨(w8.heap.size + 1), 3, none⟩ = false := Bt23.out.frozen 3))
      | (have _t := tokI; go_simp; go_at_call 55; go_must (refine (IK.out _).mono ?_); clear tokI _t
         rintro e w14 ⟨rfl, hb⟩
         go_must (have CS24 := Lib.hid (CS23.out.call hb))
         go_must (have RA24 := Lib.hid (RA23.out.below hb (Nat.le_refl _)))
         go_must (have RB24 := Lib.hid (RB23.out.below hb (Nat.le_refl _)))
         go_must (have By24 := Lib.hid (By23.out.below hb By23.out.lt))
         go_must (have Bt24 := Lib.hid (Bt23.out.below hb Bt23.out.lt))
         go_must (have hsw14 := hb.size)
         clear hb
         clear e0 x0 x1 x2 x3 le lx k0 k1 y0 y1 y2 y3 ly yf0 yf1 yf2 yf3 t0 t1 t2 t3 lt tf0 tf1 tf2 tf3
         go_must (have e0 : (w14).cell? ⟨be, 0, none⟩ = some (.slice (some ⟨b, off, none⟩) nl lc) := CS24.out.eb.cell rfl)
         go_must (have x0 : (w14).cell? ⟨bx, 0, none⟩ = some (.int .i64 (33 : Int)) := CS24.out.xb.cell rfl)
         go_must (have x1 : (w14).cell? ⟨bx, 1, none⟩ = some (.string (txt s)) := CS24.out.xb.cell rfl)
         go_must (have x2 : (w14).cell? ⟨bx, 2, none⟩ = some (.int .i64 n) := CS24.out.xb.cell rfl)
         go_must (have x3 : (w14).cell? ⟨bx, 3, none⟩ = some (.slice (some ⟨kb, ko, none⟩) 2 kc) := CS24.out.xb.cell rfl)
         go_must (have le : be < (w14).heap.size := Nat.lt_of_lt_of_le CS24.out.le CS24.out.lB)
         go_must (have lx : bx < (w14).heap.size := Nat.lt_of_lt_of_le CS24.out.lx CS24.out.lB)
         go_must (have k0 : (w14).cell? ⟨kb, ko, none⟩ = some (.int .i64 (qta : Int)) := rkid_cell (j := 0) HKV.out Eta.out (HH.out.hw.trans (CS24.out.bel.mono HH.out.hw.size)))
         go_must (have k1 : (w14).cell? ⟨kb, ko + 1, none⟩ = some (.int .i64 (qtb : Int)) := rkid_cell (j := 1) HKV.out Etb.out (HH.out.hw.trans (CS24.out.bel.mono HH.out.hw.size)))
         go_must (have y0 : (w14).cell? ⟨w8.heap.size, 0, none⟩ = some (.int .i64 39) := By24.out.cell rfl)
         go_must (have y1 : (w14).cell? ⟨w8.heap.size, 1, none⟩ = some (.int .i64 ((nA : Int) + 2 + (nB : Int) + 1)) := By24.out.cell rfl)
         go_must (have y2 : (w14).cell? ⟨w8.heap.size, 2, none⟩ = some (.int .i64 0) := By24.out.cell rfl)
         go_must (have y3 : (w14).cell? ⟨w8.heap.size, 3, none⟩ = some (.string ⟨#[]⟩) := By24.out.cell rfl)
         go_must (have ly : w8.heap.size < (w14).heap.size := By24.out.lt)
         go_must (have yf0 : (w14).frozen? ⟨w8.heap.size, 0, none⟩ = false := By24.out.frozen 0)
         go_must (have yf1 : (w14).frozen? ⟨w8.heap.size, 1, none⟩ = false := By24.out.frozen 1)
         go_must (have yf2 : (w14).frozen? ⟨w8.heap.size, 2, none⟩ = false := By24.out.frozen 2)
         go_must (have yf3 : (w14).frozen? ⟨w8.heap.size, 3, none⟩ = false := By24.out.frozen 3)
         go_must (have t0 : (w14).cell? ⟨(w8.heap.size + 1), 0, none⟩ = some (.int .i64 40) := Bt24.out.cell rfl)
         go_must (have t1 : (w14).cell? ⟨(w8.heap.size + 1), 1, none⟩ = some (.int .i64 ((nA : Int) + 1)) := Bt24.out.cell rfl)
         go_must (have t2 : (w14).cell? ⟨(w8.heap.size + 1), 2, none⟩ = some (.int .i64 0) := Bt24.out.cell rfl)
         go_must (have t3 : (w14).cell? ⟨(w8.heap.size + 1), 3, none⟩ = some (.string ⟨#[]⟩) := Bt24.out.cell rfl)
         go_must (have lt : (w8.heap.size + 1) < (w14).heap.size := Bt24.out.lt)
         go_must (have tf0 : (w14).frozen? ⟨(w8.heap.size + 1), 0, none⟩ = false := Bt24.out.frozen 0)
         go_must (have tf1 : (w14).frozen? ⟨(w8.heap.size + 1), 1, none⟩ = false := Bt24.out.frozen 1)
         go_must (have tf2 : (w14).frozen? ⟨(w8.heap.size + 1), 2, none⟩ = false := Bt24.out.frozen 2)
         go_must (have tf3 : (w14).frozen? ⟨(w8.heap.size + 1), 3, none⟩ = false := Bt24.out.frozen 3))
      | (have _t := tokT; go_simp; go_at_call 58; go_must (refine (rthen_any w15 (RA25.out.read (by decide)) (RB25.out.read (by decide)) OPSB.out (by have := HNA.out; simp <;> omega) (by have := HNB.out; omega)).mono ?_); clear tokT _t
         rintro e w16 ⟨ov, rfl, hk1, hk2⟩
         go_must (have CS26 := Lib.hid (CS25.out.call hk2))
         go_must (have Bt26 := Lib.hid (Bt25.out.below hk2 Bt25.out.lt))
         go_must (have hsw16 := hk2.size)
         obtain ⟨aT, cT, rfl⟩ := hk1.form
         obtain ⟨nT, hnT⟩ : ∃ z, ((thenN (oA ++ [(insI 37 0), (insI 39 ((nA : Int) + 2 + (nB : Int) + 1))]) oB)).length = z := ⟨_, rfl⟩
         rw [hnT] at hk1 ⊢
         go_must (have bT : nT ≤ 2100 := by rw [← hnT, thenN_len]; have := HNA.out; have := HNB.out; simp <;> omega)
         go_must (have HNT := Lib.hid hnT)
         go_must (have UT := Lib.hid hk1.block)
         go_must (have RT := Lib.hid hk1)
         clear hnT hk1
         clear hk2
         clear e0 x0 x1 x2 x3 le lx k0 k1 t0 t1 t2 t3 lt tf0 tf1 tf2 tf3
         go_must (have e0 : (w16).cell? ⟨be, 0, none⟩ = some (.slice (some ⟨b, off, none⟩) nl lc) := CS26.out.eb.cell rfl)
         go_must (have x0 : (w16).cell? ⟨bx, 0, none⟩ = some (.int .i64 (33 : Int)) := CS26.out.xb.cell rfl)
         go_must (have x1 : (w16).cell? ⟨bx, 1, none⟩ = some (.string (txt s)) := CS26.out.xb.cell rfl)
         go_must (have x2 : (w16).cell? ⟨bx, 2, none⟩ = some (.int .i64 n) := CS26.out.xb.cell rfl)
         go_must (have x3 : (w16).cell? ⟨bx, 3, none⟩ = some (.slice (some ⟨kb, ko, none⟩) 2 kc) := CS26.out.xb.cell rfl)
         go_must (have le : be < (w16).heap.size := Nat.lt_of_lt_of_le CS26.out.le CS26.out.lB)
         go_must (have lx : bx < (w16).heap.size := Nat.lt_of_lt_of_le CS26.out.lx CS26.out.lB)
         go_must (have k0 : (w16).cell? ⟨kb, ko, none⟩ = some (.int .i64 (qta : Int)) := rkid_cell (j := 0) HKV.out Eta.out (HH.out.hw.trans (CS26.out.bel.mono HH.out.hw.size)))
         go_must (have k1 : (w16).cell? ⟨kb, ko + 1, none⟩ = some (.int .i64 (qtb : Int)) := rkid_cell (j := 1) HKV.out Etb.out (HH.out.hw.trans (CS26.out.bel.mono HH.out.hw.size)))
         go_must (have t0 : (w16).cell? ⟨(w8.heap.size + 1), 0, none⟩ = some (.int .i64 40) := Bt26.out.cell rfl)
         go_must (have t1 : (w16).cell? ⟨(w8.heap.size + 1), 1, none⟩ = some (.int .i64 ((nA : Int) + 1)) := Bt26.out.cell rfl)
         go_must (have t2 : (w16).cell? ⟨(w8.heap.size + 1), 2, none⟩ = some (.int .i64 0) := Bt26.out.cell rfl)
         go_must (have t3 : (w16).cell? ⟨(w8.heap.size + 1), 3, none⟩ = some (.string ⟨#[]⟩) := Bt26.out.cell rfl)
         go_must (have lt : (w8.heap.size + 1) < (w16).heap.size := Bt26.out.lt)
         go_must (have tf0 : (w16).frozen? ⟨(w8.heap.size + 1), 0, none⟩ = false := Bt26.out.frozen 0)
         go_must (have tf1 : (w16).frozen? ⟨(w8.heap.size + 1), 1, none⟩ = false := Bt26.out.frozen 1)
         go_must (have tf2 : (w16).frozen? ⟨(w8.heap.size + 1), 2, none⟩ = false := Bt26.out.frozen 2)
         go_must (have tf3 : (w16).frozen? ⟨(w8.heap.size + 1), 3, none⟩ = false := Bt26.out.frozen 3))
      | (have _t := tokP
         skip
         go_must (refine step_append_list rfl (.tmp 183) (.tmp 189) _ (by rfl) W4.heap.size (w14.heap.size + 1) 46 jI _ 4 40 Tryd.underlying22 I.out.1 I.out.2.1 I.out.2.2.1 I.out.2.2.2 rfl (by omega) (R := Ins.Is) (l := oA) (m := [(insI 37 0), (insI 39 ((nA : Int) + 2 + (nB : Int) + 1))]) (.slice aA nA cA) (by rfl) (by exact (RA24.out.alloc (.cells #[.int .i64 37, .int .i64 0, .int .i64 0, .string ⟨#[]⟩, .int .i64 39, .int .i64 ((nA : Int) + 2 + (nB : Int) + 1), .int .i64 0, .string ⟨#[]⟩] 46))) (some ⟨w14.heap.size, 0, none⟩) 2 2 (by rfl) (by exact SlR.new2 (w := w14) (e := 46) (g := w14.heap.size) (R := Ins.Is) (x := [.int .i64 37, .int .i64 0, .int .i64 0, .string ⟨#[]⟩]) (x' := [.int .i64 39, .int .i64 ((nA : Int) + 2 + (nB : Int) + 1), .int .i64 0, .string ⟨#[]⟩]) (y := (insI 37 0)) (y' := (insI 39 ((nA : Int) + 2 + (nB : Int) + 1))) rfl (by omega) rfl rfl ⟨rfl, ins_ok (by omega) (by omega) (by omega) (by omega) (by omega) (by omega) nil_size⟩ ⟨rfl, ins_ok (by omega) (by omega) (by omega) (by omega) (by omega) (by omega) nil_size⟩) (nA + 2) (by rw [HNA.out]) Ins.Is.one (by have := HNA.out; unfold maxLen; simp <;> omega) (by have := HNA.out; simp <;> omega) (by simp <;> omega) ?_)
         clear tokP _t
         intro aA' cA' w15 hown hgr
         go_must (have CS25 := Lib.hid ((CS24.out.alloc (.cells #[.int .i64 37, .int .i64 0, .int .i64 0, .string ⟨#[]⟩, .int .i64 39, .int .i64 ((nA : Int) + 2 + (nB : Int) + 1), .int .i64 0, .string ⟨#[]⟩] 46)).grown ((RA24.out.alloc (.cells #[.int .i64 37, .int .i64 0, .int .i64 0, .string ⟨#[]⟩, .int .i64 39, .int .i64 ((nA : Int) + 2 + (nB : Int) + 1), .int .i64 0, .string ⟨#[]⟩] 46)).mono (by have := CS24.out.lB; omega)) hgr))
         go_must (have RB25 := Lib.hid ((RB24.out.alloc (.cells #[.int .i64 37, .int .i64 0, .int .i64 0, .string ⟨#[]⟩, .int .i64 39, .int .i64 ((nA : Int) + 2 + (nB : Int) + 1), .int .i64 0, .string ⟨#[]⟩] 46)).keepG (RA24.out.alloc (.cells #[.int .i64 37, .int .i64 0, .int .i64 0, .string ⟨#[]⟩, .int .i64 39, .int .i64 ((nA : Int) + 2 + (nB : Int) + 1), .int .i64 0, .string ⟨#[]⟩] 46)) hgr (.inr (fun g e => by have := (UA.out g e).2; omega))))
         go_must (have Bt25 := Lib.hid ((Bt24.out.alloc (.cells #[.int .i64 37, .int .i64 0, .int .i64 0, .string ⟨#[]⟩, .int .i64 39, .int .i64 ((nA : Int) + 2 + (nB : Int) + 1), .int .i64 0, .string ⟨#[]⟩] 46)).grown hgr (fun e => by have := UA.out ((w8.heap.size + 1)) e.symm; omega)))
         go_must (have RA25 := Lib.hid hown)
         go_must (have hsw15 : w14.heap.size < w15.heap.size := by have := hgr.size; simp at this; omega)
         clear hown hgr
         clear e0 x0 x1 x2 x3 le lx k0 k1 y0 y1 y2 y3 ly yf0 yf1 yf2 yf3 t0 t1 t2 t3 lt tf0 tf1 tf2 tf3
         go_must (have e0 : (w15).cell? ⟨be, 0, none⟩ = some (.slice (some ⟨b, off, none⟩) nl lc) := CS25.out.eb.cell rfl)
         go_must (have x0 : (w15).cell? ⟨bx, 0, none⟩ = some (.int .i64 (33 : Int)) := CS25.out.xb.cell rfl)
         go_must (have x1 : (w15).cell? ⟨bx, 1, none⟩ = some (.string (txt s)) := CS25.out.xb.cell rfl)
         go_must (have x2 : (w15).cell? ⟨bx, 2, none⟩ = some (.int .i64 n) := CS25.out.xb.cell rfl)
         go_must (have x3 : (w15).cell? ⟨bx, 3, none⟩ = some (.slice (some ⟨kb, ko, none⟩) 2 kc) := CS25.out.xb.cell rfl)
         go_must (have le : be < (w15).heap.size := Nat.lt_of_lt_of_le CS25.out.le CS25.out.lB)
         go_must (have lx : bx < (w15).heap.size := Nat.lt_of_lt_of_le CS25.out.lx CS25.out.lB)
         go_must (have k0 : (w15).cell? ⟨kb, ko, none⟩ = some (.int .i64 (qta : Int)) := rkid_cell (j := 0) HKV.out Eta.out (HH.out.hw.trans (CS25.out.bel.mono HH.out.hw.size)))
         go_must (have k1 : (w15).cell? ⟨kb, ko + 1, none⟩ = some (.int .i64 (qtb : Int)) := rkid_cell (j := 1) HKV.out Etb.out (HH.out.hw.trans (CS25.out.bel.mono HH.out.hw.size)))
         go_must (have t0 : (w15).cell? ⟨(w8.heap.size + 1), 0, none⟩ = some (.int .i64 40) := Bt25.out.cell rfl)
         go_must (have t1 : (w15).cell? ⟨(w8.heap.size + 1), 1, none⟩ = some (.int .i64 ((nA : Int) + 1)) := Bt25.out.cell rfl)
         go_must (have t2 : (w15).cell? ⟨(w8.heap.size + 1), 2, none⟩ = some (.int .i64 0) := Bt25.out.cell rfl)
         go_must (have t3 : (w15).cell? ⟨(w8.heap.size + 1), 3, none⟩ = some (.string ⟨#[]⟩) := Bt25.out.cell rfl)
         go_must (have lt : (w8.heap.size + 1) < (w15).heap.size := Bt25.out.lt)
         go_must (have tf0 : (w15).frozen? ⟨(w8.heap.size + 1), 0, none⟩ = false := Bt25.out.frozen 0)
         go_must (have tf1 : (w15).frozen? ⟨(w8.heap.size + 1), 1, none⟩ = false := Bt25.out.frozen 1)
         go_must (have tf2 : (w15).frozen? ⟨(w8.heap.size + 1), 2, none⟩ = false := Bt25.out.frozen 2)
         go_must (have tf3 : (w15).frozen? ⟨(w8.heap.size + 1), 3, none⟩ = false := Bt25.out.frozen 3))
      | fail)
    all_goals
      go_wp2_with fail
      go_meet
      exact Lib.hid ⟨w15.heap.size, by omega, by omega, RT.out, CS26.out, Bt26.out⟩
  case rest =>
    rename World => w17
    obtain ⟨base, hb1, hb2, hk1, hk2, hk3⟩ := hcut.out
    clear hcut
    have CSz := Lib.hid hk2
    have Btz := Lib.hid hk3
    clear hk2 hk3
    obtain ⟨aT, cT, rfl⟩ := hk1.form
    obtain ⟨nT, hnT⟩ : ∃ z, ((thenN (oA ++ [insI 37 0, insI 39 ((nA : Int) + 2 + (nB : Int) + 1)]) oB)).length = z := ⟨_, rfl⟩
    rw [hnT] at hk1 ⊢
    have bT : nT ≤ 2100 := by rw [← hnT, thenN_len]; have := HNA.out; have := HNB.out; simp <;> omega
    have HNT := Lib.hid hnT
    have UT := Lib.hid hk1.block
    have RT := Lib.hid hk1
    clear hnT hk1
    clear e0 x0 x1 x2 x3 le lx k0 k1 y0 y1 y2 y3 ly yf0 yf1 yf2 yf3 t0 t1 t2 t3 lt tf0 tf1 tf2 tf3
    have e0 : (w17).cell? ⟨be, 0, none⟩ = some (.slice (some ⟨b, off, none⟩) nl lc) := CSz.out.eb.cell rfl
    have x0 : (w17).cell? ⟨bx, 0, none⟩ = some (.int .i64 (33 : Int)) := CSz.out.xb.cell rfl
    have x1 : (w17).cell? ⟨bx, 1, none⟩ = some (.string (txt s)) := CSz.out.xb.cell rfl
    have x2 : (w17).cell? ⟨bx, 2, none⟩ = some (.int .i64 n) := CSz.out.xb.cell rfl
    have x3 : (w17).cell? ⟨bx, 3, none⟩ = some (.slice (some ⟨kb, ko, none⟩) 2 kc) := CSz.out.xb.cell rfl
    have le : be < (w17).heap.size := Nat.lt_of_lt_of_le CSz.out.le CSz.out.lB
    have lx : bx < (w17).heap.size := Nat.lt_of_lt_of_le CSz.out.lx CSz.out.lB
    have k0 : (w17).cell? ⟨kb, ko, none⟩ = some (.int .i64 (qta : Int)) := rkid_cell (j := 0) HKV.out Eta.out (HH.out.hw.trans (CSz.out.bel.mono HH.out.hw.size))
    have k1 : (w17).cell? ⟨kb, ko + 1, none⟩ = some (.int .i64 (qtb : Int)) := rkid_cell (j := 1) HKV.out Etb.out (HH.out.hw.trans (CSz.out.bel.mono HH.out.hw.size))
    have t0 : (w17).cell? ⟨(w8.heap.size + 1), 0, none⟩ = some (.int .i64 40) := Btz.out.cell rfl
    have t1 : (w17).cell? ⟨(w8.heap.size + 1), 1, none⟩ = some (.int .i64 ((nA : Int) + 1)) := Btz.out.cell rfl
    have t2 : (w17).cell? ⟨(w8.heap.size + 1), 2, none⟩ = some (.int .i64 0) := Btz.out.cell rfl
    have t3 : (w17).cell? ⟨(w8.heap.size + 1), 3, none⟩ = some (.string ⟨#[]⟩) := Btz.out.cell rfl
    have lt : (w8.heap.size + 1) < (w17).heap.size := Btz.out.lt
    have tf0 : (w17).frozen? ⟨(w8.heap.size + 1), 0, none⟩ = false := Btz.out.frozen 0
    have tf1 : (w17).frozen? ⟨(w8.heap.size + 1), 1, none⟩ = false := Btz.out.frozen 1
    have tf2 : (w17).frozen? ⟨(w8.heap.size + 1), 2, none⟩ = false := Btz.out.frozen 2
    have tf3 : (w17).frozen? ⟨(w8.heap.size + 1), 3, none⟩ = false := Btz.out.frozen 3
    have tokR : True := trivial
    go_wp2_with (first
      | (have _t := tokR
         at_builtin
         go_must (refine wpList_append_list rfl (.tmp 193) (.tmp 195) _ (by rfl) base (w17.heap.size + 1) 46 jI _ 4 40 Tryd.underlying22 I.out.1 I.out.2.1 I.out.2.2.1 I.out.2.2.2 rfl (by omega) (R := Ins.Is) (l := (thenN (oA ++ [insI 37 0, insI 39 ((nA : Int) + 2 + (nB : Int) + 1)]) oB)) (m := [(insI 40 ((nA : Int) + 1))]) (.slice aT nT cT) (by rfl) (by exact (RT.out.alloc (.cells #[.int .i64 40, .int .i64 ((nA : Int) + 1), .int .i64 0, .string ⟨#[]⟩] 46))) (some ⟨w17.heap.size, 0, none⟩) 1 1 (by rfl) (SlR.new1 (w := w17) (e := 46) (g := w17.heap.size) rfl (x := [.int .i64 40, .int .i64 ((nA : Int) + 1), .int .i64 0, .string ⟨#[]⟩]) rfl (R := Ins.Is) (y := (insI 40 ((nA : Int) + 1))) ⟨rfl, ins_ok (by omega) (by omega) (by omega) (by omega) (by omega) (by omega) nil_size⟩) (nT + 1) (by rw [HNT.out]) Ins.Is.one (by have := HNT.out; unfold maxLen; simp <;> omega) (by have := HNT.out; simp <;> omega) (by simp <;> omega) ?_)
         clear tokR _t
         intro aT' cT' w18 hown hgr
         go_must (have CS11 := Lib.hid ((CSz.out.alloc (.cells #[.int .i64 40, .int .i64 ((nA : Int) + 1), .int .i64 0, .string ⟨#[]⟩] 46)).grown ((RT.out.alloc (.cells #[.int .i64 40, .int .i64 ((nA : Int) + 1), .int .i64 0, .string ⟨#[]⟩] 46)).mono (by have := CSz.out.lB; omega)) hgr))
         go_must (have RT11 := Lib.hid hown)
         go_must (have hsw18 : w17.heap.size < w18.heap.size := by have := hgr.size; simp at this; omega)
         clear hown hgr
         clear e0 x0 x1 x2 x3 le lx k0 k1 t0 t1 t2 t3 lt tf0 tf1 tf2 tf3
         go_must (have e0 : (w18).cell? ⟨be, 0, none⟩ = some (.slice (some ⟨b, off, none⟩) nl lc) := CS11.out.eb.cell rfl)
         go_must (have x0 : (w18).cell? ⟨bx, 0, none⟩ = some (.int .i64 (33 : Int)) := CS11.out.xb.cell rfl)
         go_must (have x1 : (w18).cell? ⟨bx, 1, none⟩ = some (.string (txt s)) := CS11.out.xb.cell rfl)
         go_must (have x2 : (w18).cell? ⟨bx, 2, none⟩ = some (.int .i64 n) := CS11.out.xb.cell rfl)
         go_must (have x3 : (w18).cell? ⟨bx, 3, none⟩ = some (.slice (some ⟨kb, ko, none⟩) 2 kc) := CS11.out.xb.cell rfl)
         go_must (have le : be < (w18).heap.size := Nat.lt_of_lt_of_le CS11.out.le CS11.out.lB)
         go_must (have lx : bx < (w18).heap.size := Nat.lt_of_lt_of_le CS11.out.lx CS11.out.lB)
         go_must (have k0 : (w18).cell? ⟨kb, ko, none⟩ = some (.int .i64 (qta : Int)) := rkid_cell (j := 0) HKV.out Eta.out (HH.out.hw.trans (CS11.out.bel.mono HH.out.hw.size)))
         go_must (have k1 : (w18).cell? ⟨kb, ko + 1, none⟩ = some (.int .i64 (qtb : Int)) := rkid_cell (j := 1) HKV.out Etb.out (HH.out.hw.trans (CS11.out.bel.mono HH.out.hw.size))))
      | fail)
    go_ret
    rw [HCR.out]
    rw [HNA.out, HNB.out]
    exact rcodeK_of (RT11.out.mono (by omega)) CS11.out.bel
set_option maxRecDepth 100000 in
set_option maxHeartbeats 8000000 in
theorem rcode_loop34 {l : List ND} {lv : Value} {W0 : World} {f p : Nat} {s : List Nat} {n m : Int} {ta tb : Tr} {vs : List (List Nat)} {W : World} (H : RPre l lv W0 (f + 1) (.node 34 s n [ta, tb]) p vs m W) (ih : RCodeIs l lv W0 f) : Calls Tryd.prog 30 #[.agg #[lv], .int .i64 (p : Int), .int .i64 m] W (RCodeK W (cR (f + 1) (.node 34 s n [ta, tb]) vs m)) := by
  obtain ⟨hd, hks⟩ := stands_node H.st
  obtain ⟨la, lc, rfl, _, _⟩ := H.hs.form
  have hpl := (List.getElem?_eq_some_iff.1 hd).1
  obtain ⟨nl, hnl⟩ : ∃ z, l.length = z := ⟨_, rfl⟩
  rw [hnl] at H hpl ⊢
  try rw [hnl] at ih
  have hB6 := H.hw.alloc H.hw.size (.cells #[.slice la nl lc] 38)
  have hhs := H.hs
  obtain ⟨b, off, x, rfl, hbB, hxl, ⟨kv, rfl, hkv⟩, hx⟩ := (hhs.below hB6).at_ hd
  obtain ⟨ka, kc, rfl, _, _⟩ := hkv.form
  simp only [List.length_map, places_len] at hkv hx
  simp only [List.length_cons, List.length_nil, Nat.zero_add, Nat.reduceAdd] at hkv hx
  have x0 := hx 0 _ rfl
  have x1 := hx 1 _ rfl
  have x2 := hx 2 _ rfl
  have x3 := hx 3 _ rfl
  simp only [Nat.add_zero] at x0
  have p0 : (0 : Int) ≤ (p : Int) := Int.natCast_nonneg _
  have p1 : (p : Int) < (nl : Int) := by omega
  have HH := Lib.hid H
  have HNL := Lib.hid hnl
  have HKV := Lib.hid hkv
  have m1 := H.m1
  have m2 : m ≤ 1000 := by have := H.mf; omega
  obtain ⟨jI, hi, hz, hsz, hby⟩ := info_parts info_Ins
  have I := Lib.hid (And.intro hi (And.intro hz (And.intro hsz hby)))
  clear hi hz hsz hby H hd hkv hx hxl hks hnl hhs hB6
  go_enter Tryd.func30, Tryd.ntmps30
  go_upto_region 1 with fail
  have e0 : (W.alloc (.cells #[(.slice (some ⟨b, off, none⟩) nl lc)] 38)).cell? ⟨W.heap.size, 0, none⟩ = some (.slice (some ⟨b, off, none⟩) nl lc) := (Blk.new W 38 #[(.slice (some ⟨b, off, none⟩) nl lc)]).cell rfl
  have lw0 : W.heap.size < (W.alloc (.cells #[(.slice (some ⟨b, off, none⟩) nl lc)] 38)).heap.size := (Blk.new W 38 #[(.slice (some ⟨b, off, none⟩) nl lc)]).lt
  generalize hW1 : W.alloc (.cells #[(.slice (some ⟨b, off, none⟩) nl lc)] 38) = W1 at *
  have HW1 := Lib.hid hW1
  clear hW1
  go_upto_region 4 with (first
    | (go_at_call 55; go_must (refine (rins_step _).mono ?_); rintro e w2 ⟨rfl, hb⟩; go_must (have HB := Lib.hid (CSt.make HW1.out.symm hb)); clear hb)
    | fail)
  clear x0 x1 x2 x3 e0 lw0
  have CS := Lib.hid (HB.out.alloc (.cells #[.int .i64 1, .int .i64 m, .int .i64 0, .string ⟨#[]⟩] 46))
  have SK := Lib.hid (Blk.new w2 46 #[.int .i64 1, .int .i64 m, .int .i64 0, .string ⟨#[]⟩])
  generalize hW3 : w2.alloc (.cells #[.int .i64 1, .int .i64 m, .int .i64 0, .string ⟨#[]⟩] 46) = W3 at *
  obtain ⟨be, hbe⟩ : ∃ z, W.heap.size = z := ⟨_, rfl⟩
  obtain ⟨bx, hbx⟩ : ∃ z, W1.heap.size = z := ⟨_, rfl⟩
  obtain ⟨bs, hbs⟩ : ∃ z, w2.heap.size = z := ⟨_, rfl⟩
  rw [hbe] at CS
  rw [hbx, hbs] at CS
  rw [hbs] at SK
  first | rw [hbe, hbx, hbs] | rw [hbx, hbe, hbs]
  clear HB hW3 hbx hbs HW1
  have e0 : (W3).cell? ⟨be, 0, none⟩ = some (.slice (some ⟨b, off, none⟩) nl lc) := CS.out.eb.cell rfl
  have x0 : (W3).cell? ⟨bx, 0, none⟩ = some (.int .i64 (34 : Int)) := CS.out.xb.cell rfl
  have x1 : (W3).cell? ⟨bx, 1, none⟩ = some (.string (txt s)) := CS.out.xb.cell rfl
  have x2 : (W3).cell? ⟨bx, 2, none⟩ = some (.int .i64 n) := CS.out.xb.cell rfl
  have x3 : (W3).cell? ⟨bx, 3, none⟩ = some (.slice ka 2 kc) := CS.out.xb.cell rfl
  have le : be < (W3).heap.size := Nat.lt_of_lt_of_le CS.out.le CS.out.lB
  have lx : bx < (W3).heap.size := Nat.lt_of_lt_of_le CS.out.lx CS.out.lB
  have HSZ : Hid (1 + sizeL [ta, tb] ≤ 256) := Lib.hid (by have h1 := stands_size HH.out.st; have h2 := HH.out.hl; have := HNL.out; simp only [Tr.size] at h1; omega)
  obtain ⟨qta, sta, uta, eta⟩ := rkid HH.out.st HH.out.un (j := 0) (a := ta) rfl
  rw [if_neg (by omega)] at uta
  have Sta := Lib.hid sta
  have Vta := Lib.hid uta
  have Eta := Lib.hid eta
  clear sta uta eta
  obtain ⟨qtb, stb, utb, etb⟩ := rkid HH.out.st HH.out.un (j := 1) (a := tb) rfl
  rw [if_pos (by omega)] at utb
  have Stb := Lib.hid stb
  have Vtb := Lib.hid utb
  have Etb := Lib.hid etb
  clear stb utb etb
  obtain ⟨kb, ko, rfl⟩ := kid_form HKV.out (stands_node HH.out.st).2 (j := 0) (t := ta) rfl
  have wr1 : IntKind.i64.wrap (m + 1) = m + 1 := by rw [IntKind.wrap_i64]; omega
  have hs0 : bs ≤ W3.heap.size := CS.out.lB
  have hwl : W.heap.size ≤ bs := CS.out.wl
  obtain ⟨oA, hoA⟩ : ∃ z, cR f ta vs (m + 1) = z := ⟨_, rfl⟩
  have HOA := Lib.hid hoA
  have OPSA : Hid (∀ y ∈ oA, (1 ≤ y.op ∧ y.op ≤ 40) ∧ -1000000 ≤ y.arg ∧ y.arg ≤ 1000000) := Lib.hid (by rw [← hoA]; exact rcode_ops HH.out (j := 0) rfl (by simp) (by omega) (by omega))
  clear hoA
  obtain ⟨oB, hoB⟩ : ∃ z, cR f tb (vs ++ [s]) (1) = z := ⟨_, rfl⟩
  have HOB := Lib.hid hoB
  have OPSB : Hid (∀ y ∈ oB, (1 ≤ y.op ∧ y.op ≤ 40) ∧ -1000000 ≤ y.arg ∧ y.arg ≤ 1000000) := Lib.hid (by rw [← hoB]; exact rcode_ops HH.out (j := 1) rfl (by simp) (by omega) (by omega))
  clear hoB
  have hcr : cR (f + 1) (.node 34 s n [ta, tb]) vs m = thenN (oA ++ [insI 38 0, insI 39 ((oA.length : Int) + 2 + (oB.length : Int) + 1)]) oB ++ [insI 40 ((oA.length : Int) + 1)] := by rw [← HOA.out, ← HOB.out]; simp only [cR]; rw [if_neg (by decide), if_pos (by decide)]; rfl
  have HCR := Lib.hid hcr
  clear hcr
  have LK : Hid (∀ w, Calls Tryd.prog 59 #[.int .i64 34] w fun e w' => e = .returned (.bool true) ∧ Quiet w w') := Lib.hid (fun w => rloop_any 34 w)
  have WK : Hid (∀ w, Calls Tryd.prog 56 #[.int .i64 34] w fun e w' => e = .returned (.string (wordK 34)) ∧ Quiet w w') := Lib.hid (fun w => rkind_any 34 (by omega) w)
  have hop : opR (wordK 34) = 38 := opR_wordK (by omega)
  obtain ⟨wk, hwk⟩ : ∃ z, wordK 34 = z := ⟨_, rfl⟩
  rw [hwk] at WK hop
  have IK := Lib.hid (rins_any wk)
  rw [hop] at IK
  clear hwk hop
  clear e0 x0 x1 x2 x3 le lx
  have e0 : (W3).cell? ⟨be, 0, none⟩ = some (.slice (some ⟨b, off, none⟩) nl lc) := CS.out.eb.cell rfl
  have x0 : (W3).cell? ⟨bx, 0, none⟩ = some (.int .i64 (34 : Int)) := CS.out.xb.cell rfl
  have x1 : (W3).cell? ⟨bx, 1, none⟩ = some (.string (txt s)) := CS.out.xb.cell rfl
  have x2 : (W3).cell? ⟨bx, 2, none⟩ = some (.int .i64 n) := CS.out.xb.cell rfl
  have x3 : (W3).cell? ⟨bx, 3, none⟩ = some (.slice (some ⟨kb, ko, none⟩) 2 kc) := CS.out.xb.cell rfl
  have le : be < (W3).heap.size := Nat.lt_of_lt_of_le CS.out.le CS.out.lB
  have lx : bx < (W3).heap.size := Nat.lt_of_lt_of_le CS.out.lx CS.out.lB
  have k0 : (W3).cell? ⟨kb, ko, none⟩ = some (.int .i64 (qta : Int)) := rkid_cell (j := 0) HKV.out Eta.out (HH.out.hw.trans (CS.out.bel.mono HH.out.hw.size))
  have k1 : (W3).cell? ⟨kb, ko + 1, none⟩ = some (.int .i64 (qtb : Int)) := rkid_cell (j := 1) HKV.out Etb.out (HH.out.hw.trans (CS.out.bel.mono HH.out.hw.size))
  go_upto_region 20 with fail
  go_still_tail 7, (by kernel_rfl)
  change wpList _ _ _ _ _ W3.drew
  have CS1 := Lib.hid (CS.out.drew)
  have hsW4 : W3.heap.size ≤ W3.drew.heap.size := Nat.le_refl _
  generalize W3.drew = W4 at *
  clear e0 x0 x1 x2 x3 le lx k0 k1
  have e0 : (W4).cell? ⟨be, 0, none⟩ = some (.slice (some ⟨b, off, none⟩) nl lc) := CS1.out.eb.cell rfl
  have x0 : (W4).cell? ⟨bx, 0, none⟩ = some (.int .i64 (34 : Int)) := CS1.out.xb.cell rfl
  have x1 : (W4).cell? ⟨bx, 1, none⟩ = some (.string (txt s)) := CS1.out.xb.cell rfl
  have x2 : (W4).cell? ⟨bx, 2, none⟩ = some (.int .i64 n) := CS1.out.xb.cell rfl
  have x3 : (W4).cell? ⟨bx, 3, none⟩ = some (.slice (some ⟨kb, ko, none⟩) 2 kc) := CS1.out.xb.cell rfl
  have le : be < (W4).heap.size := Nat.lt_of_lt_of_le CS1.out.le CS1.out.lB
  have lx : bx < (W4).heap.size := Nat.lt_of_lt_of_le CS1.out.lx CS1.out.lB
  have k0 : (W4).cell? ⟨kb, ko, none⟩ = some (.int .i64 (qta : Int)) := rkid_cell (j := 0) HKV.out Eta.out (HH.out.hw.trans (CS1.out.bel.mono HH.out.hw.size))
  have k1 : (W4).cell? ⟨kb, ko + 1, none⟩ = some (.int .i64 (qtb : Int)) := rkid_cell (j := 1) HKV.out Etb.out (HH.out.hw.trans (CS1.out.bel.mono HH.out.hw.size))
  have tokA : True := trivial
  have tokL : True := trivial
  go_upto_region 38 with (first
    | (have _t := tokA; go_at_call 30; go_must (refine (ih ta qta vs (m + 1) _ (RPre.kid (j := 0) HH.out rfl Sta.out Vta.out (by simp) (by omega) (by omega) CS1.out.bel)).mono ?_); clear tokA _t
       rintro e w5 ⟨ov, rfl, hk1, hk2⟩
       go_must (have CS2 := Lib.hid (CS1.out.call hk2))
       rw [HOA.out] at hk1
       go_must (have hsw5 := hk2.size)
       obtain ⟨aA, cA, rfl⟩ := hk1.form
       obtain ⟨nA, hnA⟩ : ∃ z, (oA).length = z := ⟨_, rfl⟩
       rw [hnA] at hk1 ⊢
       go_must (have bA : nA ≤ 1024 := by rw [← hnA, ← HOA.out]; have := cR_len f ta vs (m + 1); have := HSZ.out; simp only [sizeL] at this; omega)
       go_must (have HNA := Lib.hid hnA)
       go_must (have UA := Lib.hid hk1.block)
       go_must (have RA := Lib.hid hk1)
       clear hnA hk1
       clear hk2
       clear e0 x0 x1 x2 x3 le lx k0 k1
       go_must (have e0 : (w5).cell? ⟨be, 0, none⟩ = some (.slice (some ⟨b, off, none⟩) nl lc) := CS2.out.eb.cell rfl)
       go_must (have x0 : (w5).cell? ⟨bx, 0, none⟩ = some (.int .i64 (34 : Int)) := CS2.out.xb.cell rfl)
       go_must (have x1 : (w5).cell? ⟨bx, 1, none⟩ = some (.string (txt s)) := CS2.out.xb.cell rfl)
       go_must (have x2 : (w5).cell? ⟨bx, 2, none⟩ = some (.int .i64 n) := CS2.out.xb.cell rfl)
       go_must (have x3 : (w5).cell? ⟨bx, 3, none⟩ = some (.slice (some ⟨kb, ko, none⟩) 2 kc) := CS2.out.xb.cell rfl)
       go_must (have le : be < (w5).heap.size := Nat.lt_of_lt_of_le CS2.out.le CS2.out.lB)
       go_must (have lx : bx < (w5).heap.size := Nat.lt_of_lt_of_le CS2.out.lx CS2.out.lB)
       go_must (have k0 : (w5).cell? ⟨kb, ko, none⟩ = some (.int .i64 (qta : Int)) := rkid_cell (j := 0) HKV.out Eta.out (HH.out.hw.trans (CS2.out.bel.mono HH.out.hw.size)))
       go_must (have k1 : (w5).cell? ⟨kb, ko + 1, none⟩ = some (.int .i64 (qtb : Int)) := rkid_cell (j := 1) HKV.out Etb.out (HH.out.hw.trans (CS2.out.bel.mono HH.out.hw.size))))
    | (have _t := tokL; go_at_call 59; go_must (refine (LK.out _).mono ?_); clear tokL _t
       rintro e w' ⟨rfl, nq, rfl⟩
       go_must (have CS3 := Lib.hid (CS2.out.drewN nq))
       go_must (have RA3 := Lib.hid (RA.out.drewN nq))
       go_must (have hsw5q : w5.heap.size ≤ (w5.drewN nq).heap.size := Nat.le_refl _)
       clear e0 x0 x1 x2 x3 le lx k0 k1
       go_must (have e0 : ((w5.drewN nq)).cell? ⟨be, 0, none⟩ = some (.slice (some ⟨b, off, none⟩) nl lc) := CS3.out.eb.cell rfl)
       go_must (have x0 : ((w5.drewN nq)).cell? ⟨bx, 0, none⟩ = some (.int .i64 (34 : Int)) := CS3.out.xb.cell rfl)
       go_must (have x1 : ((w5.drewN nq)).cell? ⟨bx, 1, none⟩ = some (.string (txt s)) := CS3.out.xb.cell rfl)
       go_must (have x2 : ((w5.drewN nq)).cell? ⟨bx, 2, none⟩ = some (.int .i64 n) := CS3.out.xb.cell rfl)
       go_must (have x3 : ((w5.drewN nq)).cell? ⟨bx, 3, none⟩ = some (.slice (some ⟨kb, ko, none⟩) 2 kc) := CS3.out.xb.cell rfl)
       go_must (have le : be < ((w5.drewN nq)).heap.size := Nat.lt_of_lt_of_le CS3.out.le CS3.out.lB)
       go_must (have lx : bx < ((w5.drewN nq)).heap.size := Nat.lt_of_lt_of_le CS3.out.lx CS3.out.lB)
       go_must (have k0 : ((w5.drewN nq)).cell? ⟨kb, ko, none⟩ = some (.int .i64 (qta : Int)) := rkid_cell (j := 0) HKV.out Eta.out (HH.out.hw.trans (CS3.out.bel.mono HH.out.hw.size)))
       go_must (have k1 : ((w5.drewN nq)).cell? ⟨kb, ko + 1, none⟩ = some (.int .i64 (qtb : Int)) := rkid_cell (j := 1) HKV.out Etb.out (HH.out.hw.trans (CS3.out.bel.mono HH.out.hw.size))))
    | fail)
  generalize (w5.drewN nq) = W6 at *
  have tokY : True := trivial
  have tokJ : True := trivial
  go_upto_region 39 with (first
    | (have _t := tokY; go_at_call 55; go_must (refine (rins_next _).mono ?_); clear tokY _t
       rintro e w7 ⟨rfl, hb⟩
       go_must (have CS4 := Lib.hid (CS3.out.call hb))
       go_must (have RA4 := Lib.hid (RA3.out.below hb (Nat.le_refl _)))
       go_must (have hsw7 := hb.size)
       clear hb
       clear e0 x0 x1 x2 x3 le lx k0 k1
       go_must (have e0 : (w7).cell? ⟨be, 0, none⟩ = some (.slice (some ⟨b, off, none⟩) nl lc) := CS4.out.eb.cell rfl)
       go_must (have x0 : (w7).cell? ⟨bx, 0, none⟩ = some (.int .i64 (34 : Int)) := CS4.out.xb.cell rfl)
       go_must (have x1 : (w7).cell? ⟨bx, 1, none⟩ = some (.string (txt s)) := CS4.out.xb.cell rfl)
       go_must (have x2 : (w7).cell? ⟨bx, 2, none⟩ = some (.int .i64 n) := CS4.out.xb.cell rfl)
       go_must (have x3 : (w7).cell? ⟨bx, 3, none⟩ = some (.slice (some ⟨kb, ko, none⟩) 2 kc) := CS4.out.xb.cell rfl)
       go_must (have le : be < (w7).heap.size := Nat.lt_of_lt_of_le CS4.out.le CS4.out.lB)
       go_must (have lx : bx < (w7).heap.size := Nat.lt_of_lt_of_le CS4.out.lx CS4.out.lB)
       go_must (have k0 : (w7).cell? ⟨kb, ko, none⟩ = some (.int .i64 (qta : Int)) := rkid_cell (j := 0) HKV.out Eta.out (HH.out.hw.trans (CS4.out.bel.mono HH.out.hw.size)))
       go_must (have k1 : (w7).cell? ⟨kb, ko + 1, none⟩ = some (.int .i64 (qtb : Int)) := rkid_cell (j := 1) HKV.out Etb.out (HH.out.hw.trans (CS4.out.bel.mono HH.out.hw.size))))
    | (have _t := tokJ; go_at_call 55; go_must (refine (rins_take _).mono ?_); clear tokJ _t
       rintro e w8 ⟨rfl, hb⟩
       go_must (have CS5 := Lib.hid (CS4.out.call hb))
       go_must (have RA5 := Lib.hid (RA4.out.below hb (Nat.le_refl _)))
       go_must (have hsw8 := hb.size)
       clear hb
       clear e0 x0 x1 x2 x3 le lx k0 k1
       go_must (have e0 : (w8).cell? ⟨be, 0, none⟩ = some (.slice (some ⟨b, off, none⟩) nl lc) := CS5.out.eb.cell rfl)
       go_must (have x0 : (w8).cell? ⟨bx, 0, none⟩ = some (.int .i64 (34 : Int)) := CS5.out.xb.cell rfl)
       go_must (have x1 : (w8).cell? ⟨bx, 1, none⟩ = some (.string (txt s)) := CS5.out.xb.cell rfl)
       go_must (have x2 : (w8).cell? ⟨bx, 2, none⟩ = some (.int .i64 n) := CS5.out.xb.cell rfl)
       go_must (have x3 : (w8).cell? ⟨bx, 3, none⟩ = some (.slice (some ⟨kb, ko, none⟩) 2 kc) := CS5.out.xb.cell rfl)
       go_must (have le : be < (w8).heap.size := Nat.lt_of_lt_of_le CS5.out.le CS5.out.lB)
       go_must (have lx : bx < (w8).heap.size := Nat.lt_of_lt_of_le CS5.out.lx CS5.out.lB)
       go_must (have k0 : (w8).cell? ⟨kb, ko, none⟩ = some (.int .i64 (qta : Int)) := rkid_cell (j := 0) HKV.out Eta.out (HH.out.hw.trans (CS5.out.bel.mono HH.out.hw.size)))
       go_must (have k1 : (w8).cell? ⟨kb, ko + 1, none⟩ = some (.int .i64 (qtb : Int)) := rkid_cell (j := 1) HKV.out Etb.out (HH.out.hw.trans (CS5.out.bel.mono HH.out.hw.size))))
    | fail)
  have CS6 := Lib.hid ((CS5.out.alloc (.cells #[.int .i64 39, .int .i64 0, .int .i64 0, .string ⟨#[]⟩] 46)).alloc (.cells #[.int .i64 40, .int .i64 0, .int .i64 0, .string ⟨#[]⟩] 46))
  have RA6 := Lib.hid ((RA5.out.alloc (.cells #[.int .i64 39, .int .i64 0, .int .i64 0, .string ⟨#[]⟩] 46)).alloc (.cells #[.int .i64 40, .int .i64 0, .int .i64 0, .string ⟨#[]⟩] 46))
  have By := Lib.hid ((Blk.new w8 46 #[.int .i64 39, .int .i64 0, .int .i64 0, .string ⟨#[]⟩]).alloc (.cells #[.int .i64 40, .int .i64 0, .int .i64 0, .string ⟨#[]⟩] 46))
  have Bt := Lib.hid (Blk.new_ (w := w8.alloc (.cells #[.int .i64 39, .int .i64 0, .int .i64 0, .string ⟨#[]⟩] 46)) (g := w8.heap.size + 1) (by simp) 46 #[.int .i64 40, .int .i64 0, .int .i64 0, .string ⟨#[]⟩])
  have hsW9 : w8.heap.size + 1 < ((w8.alloc (.cells #[.int .i64 39, .int .i64 0, .int .i64 0, .string ⟨#[]⟩] 46)).alloc (.cells #[.int .i64 40, .int .i64 0, .int .i64 0, .string ⟨#[]⟩] 46)).heap.size := by simp
  generalize (w8.alloc (.cells #[.int .i64 39, .int .i64 0, .int .i64 0, .string ⟨#[]⟩] 46)).alloc (.cells #[.int .i64 40, .int .i64 0, .int .i64 0, .string ⟨#[]⟩] 46) = W9 at *
  clear e0 x0 x1 x2 x3 le lx k0 k1
  have e0 : (W9).cell? ⟨be, 0, none⟩ = some (.slice (some ⟨b, off, none⟩) nl lc) := CS6.out.eb.cell rfl
  have x0 : (W9).cell? ⟨bx, 0, none⟩ = some (.int .i64 (34 : Int)) := CS6.out.xb.cell rfl
  have x1 : (W9).cell? ⟨bx, 1, none⟩ = some (.string (txt s)) := CS6.out.xb.cell rfl
  have x2 : (W9).cell? ⟨bx, 2, none⟩ = some (.int .i64 n) := CS6.out.xb.cell rfl
  have x3 : (W9).cell? ⟨bx, 3, none⟩ = some (.slice (some ⟨kb, ko, none⟩) 2 kc) := CS6.out.xb.cell rfl
  have le : be < (W9).heap.size := Nat.lt_of_lt_of_le CS6.out.le CS6.out.lB
  have lx : bx < (W9).heap.size := Nat.lt_of_lt_of_le CS6.out.lx CS6.out.lB
  have k0 : (W9).cell? ⟨kb, ko, none⟩ = some (.int .i64 (qta : Int)) := rkid_cell (j := 0) HKV.out Eta.out (HH.out.hw.trans (CS6.out.bel.mono HH.out.hw.size))
  have k1 : (W9).cell? ⟨kb, ko + 1, none⟩ = some (.int .i64 (qtb : Int)) := rkid_cell (j := 1) HKV.out Etb.out (HH.out.hw.trans (CS6.out.bel.mono HH.out.hw.size))
  have y0 : (W9).cell? ⟨w8.heap.size, 0, none⟩ = some (.int .i64 39) := By.out.cell rfl
  have y1 : (W9).cell? ⟨w8.heap.size, 1, none⟩ = some (.int .i64 0) := By.out.cell rfl
  have y2 : (W9).cell? ⟨w8.heap.size, 2, none⟩ = some (.int .i64 0) := By.out.cell rfl
  have y3 : (W9).cell? ⟨w8.heap.size, 3, none⟩ = some (.string ⟨#[]⟩) := By.out.cell rfl
  have ly : w8.heap.size < (W9).heap.size := By.out.lt
  have yf0 : (W9).frozen? ⟨w8.heap.size, 0, none⟩ = false := By.out.frozen 0
  have yf1 : (W9).frozen? ⟨w8.heap.size, 1, none⟩ = false := By.out.frozen 1
  have yf2 : (W9).frozen? ⟨w8.heap.size, 2, none⟩ = false := By.out.frozen 2
  have yf3 : (W9).frozen? ⟨w8.heap.size, 3, none⟩ = false := By.out.frozen 3
  have t0 : (W9).cell? ⟨(w8.heap.size + 1), 0, none⟩ = some (.int .i64 40) := Bt.out.cell rfl
  have t1 : (W9).cell? ⟨(w8.heap.size + 1), 1, none⟩ = some (.int .i64 0) := Bt.out.cell rfl
  have t2 : (W9).cell? ⟨(w8.heap.size + 1), 2, none⟩ = some (.int .i64 0) := Bt.out.cell rfl
  have t3 : (W9).cell? ⟨(w8.heap.size + 1), 3, none⟩ = some (.string ⟨#[]⟩) := Bt.out.cell rfl
  have lt : (w8.heap.size + 1) < (W9).heap.size := Bt.out.lt
  have tf0 : (W9).frozen? ⟨(w8.heap.size + 1), 0, none⟩ = false := Bt.out.frozen 0
  have tf1 : (W9).frozen? ⟨(w8.heap.size + 1), 1, none⟩ = false := Bt.out.frozen 1
  have tf2 : (W9).frozen? ⟨(w8.heap.size + 1), 2, none⟩ = false := Bt.out.frozen 2
  have tf3 : (W9).frozen? ⟨(w8.heap.size + 1), 3, none⟩ = false := Bt.out.frozen 3
  go_still_tail 5, (by kernel_rfl)
  change wpList _ _ _ _ _ W9.drew
  have CS7 := Lib.hid (CS6.out.drew)
  have RA7 := Lib.hid (RA6.out.drew)
  have By7 := Lib.hid (By.out.drwC)
  have Bt7 := Lib.hid (Bt.out.drwC)
  have hsW10 : W9.heap.size ≤ W9.drew.heap.size := Nat.le_refl _
  generalize W9.drew = W10 at *
  clear e0 x0 x1 x2 x3 le lx k0 k1 y0 y1 y2 y3 ly yf0 yf1 yf2 yf3 t0 t1 t2 t3 lt tf0 tf1 tf2 tf3
  have e0 : (W10).cell? ⟨be, 0, none⟩ = some (.slice (some ⟨b, off, none⟩) nl lc) := CS7.out.eb.cell rfl
  have x0 : (W10).cell? ⟨bx, 0, none⟩ = some (.int .i64 (34 : Int)) := CS7.out.xb.cell rfl
  have x1 : (W10).cell? ⟨bx, 1, none⟩ = some (.string (txt s)) := CS7.out.xb.cell rfl
  have x2 : (W10).cell? ⟨bx, 2, none⟩ = some (.int .i64 n) := CS7.out.xb.cell rfl
  have x3 : (W10).cell? ⟨bx, 3, none⟩ = some (.slice (some ⟨kb, ko, none⟩) 2 kc) := CS7.out.xb.cell rfl
  have le : be < (W10).heap.size := Nat.lt_of_lt_of_le CS7.out.le CS7.out.lB
  have lx : bx < (W10).heap.size := Nat.lt_of_lt_of_le CS7.out.lx CS7.out.lB
  have k0 : (W10).cell? ⟨kb, ko, none⟩ = some (.int .i64 (qta : Int)) := rkid_cell (j := 0) HKV.out Eta.out (HH.out.hw.trans (CS7.out.bel.mono HH.out.hw.size))
  have k1 : (W10).cell? ⟨kb, ko + 1, none⟩ = some (.int .i64 (qtb : Int)) := rkid_cell (j := 1) HKV.out Etb.out (HH.out.hw.trans (CS7.out.bel.mono HH.out.hw.size))
  have y0 : (W10).cell? ⟨w8.heap.size, 0, none⟩ = some (.int .i64 39) := By7.out.cell rfl
  have y1 : (W10).cell? ⟨w8.heap.size, 1, none⟩ = some (.int .i64 0) := By7.out.cell rfl
  have y2 : (W10).cell? ⟨w8.heap.size, 2, none⟩ = some (.int .i64 0) := By7.out.cell rfl
  have y3 : (W10).cell? ⟨w8.heap.size, 3, none⟩ = some (.string ⟨#[]⟩) := By7.out.cell rfl
  have ly : w8.heap.size < (W10).heap.size := By7.out.lt
  have yf0 : (W10).frozen? ⟨w8.heap.size, 0, none⟩ = false := By7.out.frozen 0
  have yf1 : (W10).frozen? ⟨w8.heap.size, 1, none⟩ = false := By7.out.frozen 1
  have yf2 : (W10).frozen? ⟨w8.heap.size, 2, none⟩ = false := By7.out.frozen 2
  have yf3 : (W10).frozen? ⟨w8.heap.size, 3, none⟩ = false := By7.out.frozen 3
  have t0 : (W10).cell? ⟨(w8.heap.size + 1), 0, none⟩ = some (.int .i64 40) := Bt7.out.cell rfl
  have t1 : (W10).cell? ⟨(w8.heap.size + 1), 1, none⟩ = some (.int .i64 0) := Bt7.out.cell rfl
  have t2 : (W10).cell? ⟨(w8.heap.size + 1), 2, none⟩ = some (.int .i64 0) := Bt7.out.cell rfl
  have t3 : (W10).cell? ⟨(w8.heap.size + 1), 3, none⟩ = some (.string ⟨#[]⟩) := Bt7.out.cell rfl
  have lt : (w8.heap.size + 1) < (W10).heap.size := Bt7.out.lt
  have tf0 : (W10).frozen? ⟨(w8.heap.size + 1), 0, none⟩ = false := Bt7.out.frozen 0
  have tf1 : (W10).frozen? ⟨(w8.heap.size + 1), 1, none⟩ = false := Bt7.out.frozen 1
  have tf2 : (W10).frozen? ⟨(w8.heap.size + 1), 2, none⟩ = false := Bt7.out.frozen 2
  have tf3 : (W10).frozen? ⟨(w8.heap.size + 1), 3, none⟩ = false := Bt7.out.frozen 3
  have tokB : True := trivial
  go_upto_region 40 with (first
    | (have _t := tokB; go_at_call 30; go_must (refine (ih tb qtb (vs ++ [s]) (1) _ (RPre.kid (j := 1) HH.out rfl Stb.out Vtb.out (by simp) (by omega) (by omega) CS7.out.bel)).mono ?_); clear tokB _t
       rintro e w11 ⟨ov, rfl, hk1, hk2⟩
       go_must (have CS8 := Lib.hid (CS7.out.call hk2))
       rw [HOB.out] at hk1
       go_must (have RA8 := Lib.hid (RA7.out.below hk2 (Nat.le_refl _)))
       go_must (have By8 := Lib.hid (By7.out.below hk2 By7.out.lt))
       go_must (have Bt8 := Lib.hid (Bt7.out.below hk2 Bt7.out.lt))
       go_must (have hsw11 := hk2.size)
       obtain ⟨aB, cB, rfl⟩ := hk1.form
       obtain ⟨nB, hnB⟩ : ∃ z, (oB).length = z := ⟨_, rfl⟩
       rw [hnB] at hk1 ⊢
       go_must (have bB : nB ≤ 1024 := by rw [← hnB, ← HOB.out]; have := cR_len f tb (vs ++ [s]) (1); have := HSZ.out; simp only [sizeL] at this; omega)
       go_must (have HNB := Lib.hid hnB)
       go_must (have UB := Lib.hid hk1.block)
       go_must (have RB := Lib.hid hk1)
       clear hnB hk1
       clear hk2
       clear e0 x0 x1 x2 x3 le lx k0 k1 y0 y1 y2 y3 ly yf0 yf1 yf2 yf3 t0 t1 t2 t3 lt tf0 tf1 tf2 tf3
       go_must (have e0 : (w11).cell? ⟨be, 0, none⟩ = some (.slice (some ⟨b, off, none⟩) nl lc) := CS8.out.eb.cell rfl)
       go_must (have x0 : (w11).cell? ⟨bx, 0, none⟩ = some (.int .i64 (34 : Int)) := CS8.out.xb.cell rfl)
       go_must (have x1 : (w11).cell? ⟨bx, 1, none⟩ = some (.string (txt s)) := CS8.out.xb.cell rfl)
       go_must (have x2 : (w11).cell? ⟨bx, 2, none⟩ = some (.int .i64 n) := CS8.out.xb.cell rfl)
       go_must (have x3 : (w11).cell? ⟨bx, 3, none⟩ = some (.slice (some ⟨kb, ko, none⟩) 2 kc) := CS8.out.xb.cell rfl)
       go_must (have le : be < (w11).heap.size := Nat.lt_of_lt_of_le CS8.out.le CS8.out.lB)
       go_must (have lx : bx < (w11).heap.size := Nat.lt_of_lt_of_le CS8.out.lx CS8.out.lB)
       go_must (have k0 : (w11).cell? ⟨kb, ko, none⟩ = some (.int .i64 (qta : Int)) := rkid_cell (j := 0) HKV.out Eta.out (HH.out.hw.trans (CS8.out.bel.mono HH.out.hw.size)))
       go_must (have k1 : (w11).cell? ⟨kb, ko + 1, none⟩ = some (.int .i64 (qtb : Int)) := rkid_cell (j := 1) HKV.out Etb.out (HH.out.hw.trans (CS8.out.bel.mono HH.out.hw.size)))
       go_must (have y0 : (w11).cell? ⟨w8.heap.size, 0, none⟩ = some (.int .i64 39) := By8.out.cell rfl)
       go_must (have y1 : (w11).cell? ⟨w8.heap.size, 1, none⟩ = some (.int .i64 0) := By8.out.cell rfl)
       go_must (have y2 : (w11).cell? ⟨w8.heap.size, 2, none⟩ = some (.int .i64 0) := By8.out.cell rfl)
       go_must (have y3 : (w11).cell? ⟨w8.heap.size, 3, none⟩ = some (.string ⟨#[]⟩) := By8.out.cell rfl)
       go_must (have ly : w8.heap.size < (w11).heap.size := By8.out.lt)
       go_must (have yf0 : (w11).frozen? ⟨w8.heap.size, 0, none⟩ = false := By8.out.frozen 0)
       go_must (have yf1 : (w11).frozen? ⟨w8.heap.size, 1, none⟩ = false := By8.out.frozen 1)
       go_must (have yf2 : (w11).frozen? ⟨w8.heap.size, 2, none⟩ = false := By8.out.frozen 2)
       go_must (have yf3 : (w11).frozen? ⟨w8.heap.size, 3, none⟩ = false := By8.out.frozen 3)
       go_must (have t0 : (w11).cell? ⟨(w8.heap.size + 1), 0, none⟩ = some (.int .i64 40) := Bt8.out.cell rfl)
       go_must (have t1 : (w11).cell? ⟨(w8.heap.size + 1), 1, none⟩ = some (.int .i64 0) := Bt8.out.cell rfl)
       go_must (have t2 : (w11).cell? ⟨(w8.heap.size + 1), 2, none⟩ = some (.int .i64 0) := Bt8.out.cell rfl)
       go_must (have t3 : (w11).cell? ⟨(w8.heap.size + 1), 3, none⟩ = some (.string ⟨#[]⟩) := Bt8.out.cell rfl)
       go_must (have lt : (w8.heap.size + 1) < (w11).heap.size := Bt8.out.lt)
       go_must (have tf0 : (w11).frozen? ⟨(w8.heap.size + 1), 0, none⟩ = false := Bt8.out.frozen 0)
       go_must (have tf1 : (w11).frozen? ⟨(w8.heap.size + 1), 1, none⟩ = false := Bt8.out.frozen 1)
       go_must (have tf2 : (w11).frozen? ⟨(w8.heap.size + 1), 2, none⟩ = false := Bt8.out.frozen 2)
       go_must (have tf3 : (w11).frozen? ⟨(w8.heap.size + 1), 3, none⟩ = false := Bt8.out.frozen 3))
    | fail)
  go_upto_region 41 with fail
  generalize hW12 : World.setCell _ _ _ = W12
  have CS9 : Hid (CSt W W12 (.slice (some ⟨b, off, none⟩) nl lc) be bx #[.int .i64 (34 : Int), .string (txt s), .int .i64 n, .slice (some ⟨kb, ko, none⟩) 2 kc] bs) := Lib.hid (by rw [← hW12]; exact (CS8.out.set_ (g := (w8.heap.size + 1)) (by omega) _ _))
  have RA9 : Hid (Own1 W12 W4.heap.size 46 4 Ins.Is (.slice aA nA cA) oA) := Lib.hid (by rw [← hW12]; exact (RA8.out.setOther (p := ⟨(w8.heap.size + 1), 1, none⟩) (fun e => by have := UA.out ((w8.heap.size + 1)) e; omega) _))
  have RB9 : Hid (Own1 W12 W10.heap.size 46 4 Ins.Is (.slice aB nB cB) oB) := Lib.hid (by rw [← hW12]; exact (RB.out.setOther (p := ⟨(w8.heap.size + 1), 1, none⟩) (fun e => by have := UB.out ((w8.heap.size + 1)) e; omega) _))
  have By9 : Hid (Blk W12 w8.heap.size 46 #[.int .i64 39, .int .i64 0, .int .i64 0, .string ⟨#[]⟩]) := Lib.hid (by rw [← hW12]; exact (By8.out.far (p := ⟨(w8.heap.size + 1), 1, none⟩) (by show _ ≠ (w8.heap.size + 1); omega) _))
  have Bt9 : Hid (Blk W12 (w8.heap.size + 1) 46 #[.int .i64 40, .int .i64 ((nA : Int) + 1), .int .i64 0, .string ⟨#[]⟩]) := Lib.hid (by rw [← hW12]; have := (Bt8.out.set_ 1 (.int .i64 ((nA : Int) + 1))); simpa using this)
  have hsW12 : w11.heap.size ≤ W12.heap.size := by rw [← hW12]; simp
  clear hW12
  clear e0 x0 x1 x2 x3 le lx k0 k1 y0 y1 y2 y3 ly yf0 yf1 yf2 yf3 t0 t1 t2 t3 lt tf0 tf1 tf2 tf3
  have e0 : (W12).cell? ⟨be, 0, none⟩ = some (.slice (some ⟨b, off, none⟩) nl lc) := CS9.out.eb.cell rfl
  have x0 : (W12).cell? ⟨bx, 0, none⟩ = some (.int .i64 (34 : Int)) := CS9.out.xb.cell rfl
  have x1 : (W12).cell? ⟨bx, 1, none⟩ = some (.string (txt s)) := CS9.out.xb.cell rfl
  have x2 : (W12).cell? ⟨bx, 2, none⟩ = some (.int .i64 n) := CS9.out.xb.cell rfl
  have x3 : (W12).cell? ⟨bx, 3, none⟩ = some (.slice (some ⟨kb, ko, none⟩) 2 kc) := CS9.out.xb.cell rfl
  have le : be < (W12).heap.size := Nat.lt_of_lt_of_le CS9.out.le CS9.out.lB
  have lx : bx < (W12).heap.size := Nat.lt_of_lt_of_le CS9.out.lx CS9.out.lB
  have k0 : (W12).cell? ⟨kb, ko, none⟩ = some (.int .i64 (qta : Int)) := rkid_cell (j := 0) HKV.out Eta.out (HH.out.hw.trans (CS9.out.bel.mono HH.out.hw.size))
  have k1 : (W12).cell? ⟨kb, ko + 1, none⟩ = some (.int .i64 (qtb : Int)) := rkid_cell (j := 1) HKV.out Etb.out (HH.out.hw.trans (CS9.out.bel.mono HH.out.hw.size))
  have y0 : (W12).cell? ⟨w8.heap.size, 0, none⟩ = some (.int .i64 39) := By9.out.cell rfl
  have y1 : (W12).cell? ⟨w8.heap.size, 1, none⟩ = some (.int .i64 0) := By9.out.cell rfl
  have y2 : (W12).cell? ⟨w8.heap.size, 2, none⟩ = some (.int .i64 0) := By9.out.cell rfl
  have y3 : (W12).cell? ⟨w8.heap.size, 3, none⟩ = some (.string ⟨#[]⟩) := By9.out.cell rfl
  have ly : w8.heap.size < (W12).heap.size := By9.out.lt
  have yf0 : (W12).frozen? ⟨w8.heap.size, 0, none⟩ = false := By9.out.frozen 0
  have yf1 : (W12).frozen? ⟨w8.heap.size, 1, none⟩ = false := By9.out.frozen 1
  have yf2 : (W12).frozen? ⟨w8.heap.size, 2, none⟩ = false := By9.out.frozen 2
  have yf3 : (W12).frozen? ⟨w8.heap.size, 3, none⟩ = false := By9.out.frozen 3
  have t0 : (W12).cell? ⟨(w8.heap.size + 1), 0, none⟩ = some (.int .i64 40) := Bt9.out.cell rfl
  have t1 : (W12).cell? ⟨(w8.heap.size + 1), 1, none⟩ = some (.int .i64 ((nA : Int) + 1)) := Bt9.out.cell rfl
  have t2 : (W12).cell? ⟨(w8.heap.size + 1), 2, none⟩ = some (.int .i64 0) := Bt9.out.cell rfl
  have t3 : (W12).cell? ⟨(w8.heap.size + 1), 3, none⟩ = some (.string ⟨#[]⟩) := Bt9.out.cell rfl
  have lt : (w8.heap.size + 1) < (W12).heap.size := Bt9.out.lt
  have tf0 : (W12).frozen? ⟨(w8.heap.size + 1), 0, none⟩ = false := Bt9.out.frozen 0
  have tf1 : (W12).frozen? ⟨(w8.heap.size + 1), 1, none⟩ = false := Bt9.out.frozen 1
  have tf2 : (W12).frozen? ⟨(w8.heap.size + 1), 2, none⟩ = false := Bt9.out.frozen 2
  have tf3 : (W12).frozen? ⟨(w8.heap.size + 1), 3, none⟩ = false := Bt9.out.frozen 3
  go_upto_region 42 with fail
  generalize hW13 : World.setCell _ _ _ = W13
  have CS10 : Hid (CSt W W13 (.slice (some ⟨b, off, none⟩) nl lc) be bx #[.int .i64 (34 : Int), .string (txt s), .int .i64 n, .slice (some ⟨kb, ko, none⟩) 2 kc] bs) := Lib.hid (by rw [← hW13]; exact (CS9.out.set_ (g := w8.heap.size) (by omega) _ _))
  have RA10 : Hid (Own1 W13 W4.heap.size 46 4 Ins.Is (.slice aA nA cA) oA) := Lib.hid (by rw [← hW13]; exact (RA9.out.setOther (p := ⟨w8.heap.size, 1, none⟩) (fun e => by have := UA.out (w8.heap.size) e; omega) _))
  have RB10 : Hid (Own1 W13 W10.heap.size 46 4 Ins.Is (.slice aB nB cB) oB) := Lib.hid (by rw [← hW13]; exact (RB9.out.setOther (p := ⟨w8.heap.size, 1, none⟩) (fun e => by have := UB.out (w8.heap.size) e; omega) _))
  have Bt10 : Hid (Blk W13 (w8.heap.size + 1) 46 #[.int .i64 40, .int .i64 ((nA : Int) + 1), .int .i64 0, .string ⟨#[]⟩]) := Lib.hid (by rw [← hW13]; exact (Bt9.out.far (p := ⟨w8.heap.size, 1, none⟩) (by show _ ≠ w8.heap.size; omega) _))
  have By10 : Hid (Blk W13 w8.heap.size 46 #[.int .i64 39, .int .i64 ((nA : Int) + 2 + (nB : Int) + 1), .int .i64 0, .string ⟨#[]⟩]) := Lib.hid (by rw [← hW13]; have := (By9.out.set_ 1 (.int .i64 ((nA : Int) + 2 + (nB : Int) + 1))); simpa using this)
  have hsW13 : W12.heap.size ≤ W13.heap.size := by rw [← hW13]; simp
  clear hW13
  clear e0 x0 x1 x2 x3 le lx k0 k1 y0 y1 y2 y3 ly yf0 yf1 yf2 yf3 t0 t1 t2 t3 lt tf0 tf1 tf2 tf3
  have e0 : (W13).cell? ⟨be, 0, none⟩ = some (.slice (some ⟨b, off, none⟩) nl lc) := CS10.out.eb.cell rfl
  have x0 : (W13).cell? ⟨bx, 0, none⟩ = some (.int .i64 (34 : Int)) := CS10.out.xb.cell rfl
  have x1 : (W13).cell? ⟨bx, 1, none⟩ = some (.string (txt s)) := CS10.out.xb.cell rfl
  have x2 : (W13).cell? ⟨bx, 2, none⟩ = some (.int .i64 n) := CS10.out.xb.cell rfl
  have x3 : (W13).cell? ⟨bx, 3, none⟩ = some (.slice (some ⟨kb, ko, none⟩) 2 kc) := CS10.out.xb.cell rfl
  have le : be < (W13).heap.size := Nat.lt_of_lt_of_le CS10.out.le CS10.out.lB
  have lx : bx < (W13).heap.size := Nat.lt_of_lt_of_le CS10.out.lx CS10.out.lB
  have k0 : (W13).cell? ⟨kb, ko, none⟩ = some (.int .i64 (qta : Int)) := rkid_cell (j := 0) HKV.out Eta.out (HH.out.hw.trans (CS10.out.bel.mono HH.out.hw.size))
  have k1 : (W13).cell? ⟨kb, ko + 1, none⟩ = some (.int .i64 (qtb : Int)) := rkid_cell (j := 1) HKV.out Etb.out (HH.out.hw.trans (CS10.out.bel.mono HH.out.hw.size))
  have y0 : (W13).cell? ⟨w8.heap.size, 0, none⟩ = some (.int .i64 39) := By10.out.cell rfl
  have y1 : (W13).cell? ⟨w8.heap.size, 1, none⟩ = some (.int .i64 ((nA : Int) + 2 + (nB : Int) + 1)) := By10.out.cell rfl
  have y2 : (W13).cell? ⟨w8.heap.size, 2, none⟩ = some (.int .i64 0) := By10.out.cell rfl
  have y3 : (W13).cell? ⟨w8.heap.size, 3, none⟩ = some (.string ⟨#[]⟩) := By10.out.cell rfl
  have ly : w8.heap.size < (W13).heap.size := By10.out.lt
  have yf0 : (W13).frozen? ⟨w8.heap.size, 0, none⟩ = false := By10.out.frozen 0
  have yf1 : (W13).frozen? ⟨w8.heap.size, 1, none⟩ = false := By10.out.frozen 1
  have yf2 : (W13).frozen? ⟨w8.heap.size, 2, none⟩ = false := By10.out.frozen 2
  have yf3 : (W13).frozen? ⟨w8.heap.size, 3, none⟩ = false := By10.out.frozen 3
  have t0 : (W13).cell? ⟨(w8.heap.size + 1), 0, none⟩ = some (.int .i64 40) := Bt10.out.cell rfl
  have t1 : (W13).cell? ⟨(w8.heap.size + 1), 1, none⟩ = some (.int .i64 ((nA : Int) + 1)) := Bt10.out.cell rfl
  have t2 : (W13).cell? ⟨(w8.heap.size + 1), 2, none⟩ = some (.int .i64 0) := Bt10.out.cell rfl
  have t3 : (W13).cell? ⟨(w8.heap.size + 1), 3, none⟩ = some (.string ⟨#[]⟩) := Bt10.out.cell rfl
  have lt : (w8.heap.size + 1) < (W13).heap.size := Bt10.out.lt
  have tf0 : (W13).frozen? ⟨(w8.heap.size + 1), 0, none⟩ = false := Bt10.out.frozen 0
  have tf1 : (W13).frozen? ⟨(w8.heap.size + 1), 1, none⟩ = false := Bt10.out.frozen 1
  have tf2 : (W13).frozen? ⟨(w8.heap.size + 1), 2, none⟩ = false := Bt10.out.frozen 2
  have tf3 : (W13).frozen? ⟨(w8.heap.size + 1), 3, none⟩ = false := Bt10.out.frozen 3
  go_cut [11] from 183 to 193 (fun v11 wx => Hid (∃ base, bs ≤ base ∧ base ≤ wx.heap.size ∧ Own1 wx base 46 4 Ins.Is v11 (thenN (oA ++ [insI 38 0, insI 39 ((nA : Int) + 2 + (nB : Int) + 1)]) oB) ∧ CSt W wx (.slice (some ⟨b, off, none⟩) nl lc) be bx #[.int .i64 (34 : Int), .string (txt s), .int .i64 n, .slice (some ⟨kb, ko, none⟩) 2 kc] bs ∧ Blk wx (w8.heap.size + 1) 46 #[.int .i64 40, .int .i64 ((nA : Int) + 1), .int .i64 0, .string ⟨#[]⟩]))
  case first =>
    have tokW : True := trivial
    have tokI : True := trivial
    have tokP : True := trivial
    have tokT : True := trivial
    have CS11 := Lib.hid (CS10.out.drew)
    have RA11 := Lib.hid (RA10.out.drew)
    have RB11 := Lib.hid (RB10.out.drew)
    have By11 := Lib.hid (By10.out.drwC)
    have Bt11 := Lib.hid (Bt10.out.drwC)
    have hsd : W13.heap.size ≤ W13.drew.heap.size := Nat.le_refl _
    go_region_law (first
      | (have _t := tokW; go_simp; go_at_call 56; go_must (refine (WK.out _).mono ?_); clear tokW _t
         rintro e w' ⟨rfl, nq, rfl⟩
         go_must (have CS23 := Lib.hid (CS10.out.drewN (1 + nq)))
         go_must (have RA23 := Lib.hid (RA10.out.drewN (1 + nq)))
         go_must (have RB23 := Lib.hid (RB10.out.drewN (1 + nq)))
         go_must (have By23 := Lib.hid (By10.out.drwN (1 + nq)))
         go_must (have Bt23 := Lib.hid (Bt10.out.drwN (1 + nq)))
         go_must (have hsq : W13.heap.size ≤ (W13.drewN (1 + nq)).heap.size := Nat.le_refl _)
         clear e0 x0 x1 x2 x3 le lx k0 k1 y0 y1 y2 y3 ly yf0 yf1 yf2 yf3 t0 t1 t2 t3 lt tf0 tf1 tf2 tf3
         go_must (have e0 : ((W13.drewN (1 + nq))).cell? ⟨be, 0, none⟩ = some (.slice (some ⟨b, off, none⟩) nl lc) := CS23.out.eb.cell rfl)
         go_must (have x0 : ((W13.drewN (1 + nq))).cell? ⟨bx, 0, none⟩ = some (.int .i64 (34 : Int)) := CS23.out.xb.cell rfl)
         go_must (have x1 : ((W13.drewN (1 + nq))).cell? ⟨bx, 1, none⟩ = some (.string (txt s)) := CS23.out.xb.cell rfl)
         go_must (have x2 : ((W13.drewN (1 + nq))).cell? ⟨bx, 2, none⟩ = some (.int .i64 n) := CS23.out.xb.cell rfl)
         go_must (have x3 : ((W13.drewN (1 + nq))).cell? ⟨bx, 3, none⟩ = some (.slice (some ⟨kb, ko, none⟩) 2 kc) := CS23.out.xb.cell rfl)
         go_must (have le : be < ((W13.drewN (1 + nq))).heap.size := Nat.lt_of_lt_of_le CS23.out.le CS23.out.lB)
         go_must (have lx : bx < ((W13.drewN (1 + nq))).heap.size := Nat.lt_of_lt_of_le CS23.out.lx CS23.out.lB)
         go_must (have k0 : ((W13.drewN (1 + nq))).cell? ⟨kb, ko, none⟩ = some (.int .i64 (qta : Int)) := rkid_cell (j := 0) HKV.out Eta.out (HH.out.hw.trans (CS23.out.bel.mono HH.out.hw.size)))
         go_must (have k1 : ((W13.drewN (1 + nq))).cell? ⟨kb, ko + 1, none⟩ = some (.int .i64 (qtb : Int)) := rkid_cell (j := 1) HKV.out Etb.out (HH.out.hw.trans (CS23.out.bel.mono HH.out.hw.size)))
         go_must (have y0 : ((W13.drewN (1 + nq))).cell? ⟨w8.heap.size, 0, none⟩ = some (.int .i64 39) := By23.out.cell rfl)
         go_must (have y1 : ((W13.drewN (1 + nq))).cell? ⟨w8.heap.size, 1, none⟩ = some (.int .i64 ((nA : Int) + 2 + (nB : Int) + 1)) := By23.out.cell rfl)
         go_must (have y2 : ((W13.drewN (1 + nq))).cell? ⟨w8.heap.size, 2, none⟩ = some (.int .i64 0) := By23.out.cell rfl)
         go_must (have y3 : ((W13.drewN (1 + nq))).cell? ⟨w8.heap.size, 3, none⟩ = some (.string ⟨#[]⟩) := By23.out.cell rfl)
         go_must (have ly : w8.heap.size < ((W13.drewN (1 + nq))).heap.size := By23.out.lt)
         go_must (have yf0 : ((W13.drewN (1 + nq))).frozen? ⟨w8.heap.size, 0, none⟩ = false := By23.out.frozen 0)
         go_must (have yf1 : ((W13.drewN (1 + nq))).frozen? ⟨w8.heap.size, 1, none⟩ = false := By23.out.frozen 1)
         go_must (have yf2 : ((W13.drewN (1 + nq))).frozen? ⟨w8.heap.size, 2, none⟩ = false := By23.out.frozen 2)
         go_must (have yf3 : ((W13.drewN (1 + nq))).frozen? ⟨w8.heap.size, 3, none⟩ = false := By23.out.frozen 3)
         go_must (have t0 : ((W13.drewN (1 + nq))).cell? ⟨(w8.heap.size + 1), 0, none⟩ = some (.int .i64 40) := Bt23.out.cell rfl)
         go_must (have t1 : ((W13.drewN (1 + nq))).cell? ⟨(w8.heap.size + 1), 1, none⟩ = some (.int .i64 ((nA : Int) + 1)) := Bt23.out.cell rfl)
         go_must (have t2 : ((W13.drewN (1 + nq))).cell? ⟨(w8.heap.size + 1), 2, none⟩ = some (.int .i64 0) := Bt23.out.cell rfl)
         go_must (have t3 : ((W13.drewN (1 + nq))).cell? ⟨(w8.heap.size + 1), 3, none⟩ = some (.string ⟨#[]⟩) := Bt23.out.cell rfl)
         go_must (have lt : (w8.heap.size + 1) < ((W13.drewN (1 + nq))).heap.size := Bt23.out.lt)
         go_must (have tf0 : ((W13.drewN (1 + nq))).frozen? ⟨(w8.heap.size + 1), 0, none⟩ = false := Bt23.out.frozen 0)
         go_must (have tf1 : ((W13.drewN (1 + nq))).frozen? ⟨(w8.heap.size + 1), 1, none⟩ = false := Bt23.out.frozen 1)
         go_must (have tf2 : ((W13.drewN (1 + nq))).frozen? ⟨(w8.heap.size + 1), 2, none⟩ = false := Bt23.out.frozen 2)
         go_must (have tf3 : ((W13.drewN (1 + nq))).frozen? ⟨(w8.heap.size + 1), 3, none⟩ = false := Bt23.out.frozen 3))
      | (have _t := tokI; go_simp; go_at_call 55; go_must (refine (IK.out _).mono ?_); clear tokI _t
         rintro e w14 ⟨rfl, hb⟩
         go_must (have CS24 := Lib.hid (CS23.out.call hb))
         go_must (have RA24 := Lib.hid (RA23.out.below hb (Nat.le_refl _)))
         go_must (have RB24 := Lib.hid (RB23.out.below hb (Nat.le_refl _)))
         go_must (have By24 := Lib.hid (By23.out.below hb By23.out.lt))
         go_must (have Bt24 := Lib.hid (Bt23.out.below hb Bt23.out.lt))
         go_must (have hsw14 := hb.size)
         clear hb
         clear e0 x0 x1 x2 x3 le lx k0 k1 y0 y1 y2 y3 ly yf0 yf1 yf2 yf3 t0 t1 t2 t3 lt tf0 tf1 tf2 tf3
         go_must (have e0 : (w14).cell? ⟨be, 0, none⟩ = some (.slice (some ⟨b, off, none⟩) nl lc) := CS24.out.eb.cell rfl)
         go_must (have x0 : (w14).cell? ⟨bx, 0, none⟩ = some (.int .i64 (34 : Int)) := CS24.out.xb.cell rfl)
         go_must (have x1 : (w14).cell? ⟨bx, 1, none⟩ = some (.string (txt s)) := CS24.out.xb.cell rfl)
         go_must (have x2 : (w14).cell? ⟨bx, 2, none⟩ = some (.int .i64 n) := CS24.out.xb.cell rfl)
         go_must (have x3 : (w14).cell? ⟨bx, 3, none⟩ = some (.slice (some ⟨kb, ko, none⟩) 2 kc) := CS24.out.xb.cell rfl)
         go_must (have le : be < (w14).heap.size := Nat.lt_of_lt_of_le CS24.out.le CS24.out.lB)
         go_must (have lx : bx < (w14).heap.size := Nat.lt_of_lt_of_le CS24.out.lx CS24.out.lB)
         go_must (have k0 : (w14).cell? ⟨kb, ko, none⟩ = some (.int .i64 (qta : Int)) := rkid_cell (j := 0) HKV.out Eta.out (HH.out.hw.trans (CS24.out.bel.mono HH.out.hw.size)))
         go_must (have k1 : (w14).cell? ⟨kb, ko + 1, none⟩ = some (.int .i64 (qtb : Int)) := rkid_cell (j := 1) HKV.out Etb.out (HH.out.hw.trans (CS24.out.bel.mono HH.out.hw.size)))
         go_must (have y0 : (w14).cell? ⟨w8.heap.size, 0, none⟩ = some (.int .i64 39) := By24.out.cell rfl)
         go_must (have y1 : (w14).cell? ⟨w8.heap.size, 1, none⟩ = some (.int .i64 ((nA : Int) + 2 + (nB : Int) + 1)) := By24.out.cell rfl)
         go_must (have y2 : (w14).cell? ⟨w8.heap.size, 2, none⟩ = some (.int .i64 0) := By24.out.cell rfl)
         go_must (have y3 : (w14).cell? ⟨w8.heap.size, 3, none⟩ = some (.string ⟨#[]⟩) := By24.out.cell rfl)
         go_must (have ly : w8.heap.size < (w14).heap.size := By24.out.lt)
         go_must (have yf0 : (w14).frozen? ⟨w8.heap.size, 0, none⟩ = false := By24.out.frozen 0)
         go_must (have yf1 : (w14).frozen? ⟨w8.heap.size, 1, none⟩ = false := By24.out.frozen 1)
         go_must (have yf2 : (w14).frozen? ⟨w8.heap.size, 2, none⟩ = false := By24.out.frozen 2)
         go_must (have yf3 : (w14).frozen? ⟨w8.heap.size, 3, none⟩ = false := By24.out.frozen 3)
         go_must (have t0 : (w14).cell? ⟨(w8.heap.size + 1), 0, none⟩ = some (.int .i64 40) := Bt24.out.cell rfl)
         go_must (have t1 : (w14).cell? ⟨(w8.heap.size + 1), 1, none⟩ = some (.int .i64 ((nA : Int) + 1)) := Bt24.out.cell rfl)
         go_must (have t2 : (w14).cell? ⟨(w8.heap.size + 1), 2, none⟩ = some (.int .i64 0) := Bt24.out.cell rfl)
         go_must (have t3 : (w14).cell? ⟨(w8.heap.size + 1), 3, none⟩ = some (.string ⟨#[]⟩) := Bt24.out.cell rfl)
         go_must (have lt : (w8.heap.size + 1) < (w14).heap.size := Bt24.out.lt)
         go_must (have tf0 : (w14).frozen? ⟨(w8.heap.size + 1), 0, none⟩ = false := Bt24.out.frozen 0)
         go_must (have tf1 : (w14).frozen? ⟨(w8.heap.size + 1), 1, none⟩ = false := Bt24.out.frozen 1)
         go_must (have tf2 : (w14).frozen? ⟨(w8.heap.size + 1), 2, none⟩ = false := Bt24.out.frozen 2)
         go_must (have tf3 : (w14).frozen? ⟨(w8.heap.size + 1), 3, none⟩ = false := Bt24.out.frozen 3))
      | (have _t := tokT; go_simp; go_at_call 58; go_must (refine (rthen_any w15 (RA25.out.read (by decide)) (RB25.out.read (by decide)) OPSB.out (by have := HNA.out; simp <;> omega) (by have := HNB.out; omega)).mono ?_); clear tokT _t
         rintro e w16 ⟨ov, rfl, hk1, hk2⟩
         go_must (have CS26 := Lib.hid (CS25.out.call hk2))
         go_must (have Bt26 := Lib.hid (Bt25.out.below hk2 Bt25.out.lt))
         go_must (have hsw16 := hk2.size)
         obtain ⟨aT, cT, rfl⟩ := hk1.form
         obtain ⟨nT, hnT⟩ : ∃ z, ((thenN (oA ++ [(insI 38 0), (insI 39 ((nA : Int) + 2 + (nB : Int) + 1))]) oB)).length = z := ⟨_, rfl⟩
         rw [hnT] at hk1 ⊢
         go_must (have bT : nT ≤ 2100 := by rw [← hnT, thenN_len]; have := HNA.out; have := HNB.out; simp <;> omega)
         go_must (have HNT := Lib.hid hnT)
         go_must (have UT := Lib.hid hk1.block)
         go_must (have RT := Lib.hid hk1)
         clear hnT hk1
         clear hk2
         clear e0 x0 x1 x2 x3 le lx k0 k1 t0 t1 t2 t3 lt tf0 tf1 tf2 tf3
         go_must (have e0 : (w16).cell? ⟨be, 0, none⟩ = some (.slice (some ⟨b, off, none⟩) nl lc) := CS26.out.eb.cell rfl)
         go_must (have x0 : (w16).cell? ⟨bx, 0, none⟩ = some (.int .i64 (34 : Int)) := CS26.out.xb.cell rfl)
         go_must (have x1 : (w16).cell? ⟨bx, 1, none⟩ = some (.string (txt s)) := CS26.out.xb.cell rfl)
         go_must (have x2 : (w16).cell? ⟨bx, 2, none⟩ = some (.int .i64 n) := CS26.out.xb.cell rfl)
         go_must (have x3 : (w16).cell? ⟨bx, 3, none⟩ = some (.slice (some ⟨kb, ko, none⟩) 2 kc) := CS26.out.xb.cell rfl)
         go_must (have le : be < (w16).heap.size := Nat.lt_of_lt_of_le CS26.out.le CS26.out.lB)
         go_must (have lx : bx < (w16).heap.size := Nat.lt_of_lt_of_le CS26.out.lx CS26.out.lB)
         go_must (have k0 : (w16).cell? ⟨kb, ko, none⟩ = some (.int .i64 (qta : Int)) := rkid_cell (j := 0) HKV.out Eta.out (HH.out.hw.trans (CS26.out.bel.mono HH.out.hw.size)))
         go_must (have k1 : (w16).cell? ⟨kb, ko + 1, none⟩ = some (.int .i64 (qtb : Int)) := rkid_cell (j := 1) HKV.out Etb.out (HH.out.hw.trans (CS26.out.bel.mono HH.out.hw.size)))
         go_must (have t0 : (w16).cell? ⟨(w8.heap.size + 1), 0, none⟩ = some (.int .i64 40) := Bt26.out.cell rfl)
         go_must (have t1 : (w16).cell? ⟨(w8.heap.size + 1), 1, none⟩ = some (.int .i64 ((nA : Int) + 1)) := Bt26.out.cell rfl)
         go_must (have t2 : (w16).cell? ⟨(w8.heap.size + 1), 2, none⟩ = some (.int .i64 0) := Bt26.out.cell rfl)
         go_must (have t3 : (w16).cell? ⟨(w8.heap.size + 1), 3, none⟩ = some (.string ⟨#[]⟩) := Bt26.out.cell rfl)
         go_must (have lt : (w8.heap.size + 1) < (w16).heap.size := Bt26.out.lt)
         go_must (have tf0 : (w16).frozen? ⟨(w8.heap.size + 1), 0, none⟩ = false := Bt26.out.frozen 0)
         go_must (have tf1 : (w16).frozen? ⟨(w8.heap.size + 1), 1, none⟩ = false := Bt26.out.frozen 1)
         go_must (have tf2 : (w16).frozen? ⟨(w8.heap.size + 1), 2, none⟩ = false := Bt26.out.frozen 2)
         go_must (have tf3 : (w16).frozen? ⟨(w8.heap.size + 1), 3, none⟩ = false := Bt26.out.frozen 3))
      | (have _t := tokP
         skip
         go_must (refine step_append_list rfl (.tmp 183) (.tmp 189) _ (by rfl) W4.heap.size (w14.heap.size + 1) 46 jI _ 4 40 Tryd.underlying22 I.out.1 I.out.2.1 I.out.2.2.1 I.out.2.2.2 rfl (by omega) (R := Ins.Is) (l := oA) (m := [(insI 38 0), (insI 39 ((nA : Int) + 2 + (nB : Int) + 1))]) (.slice aA nA cA) (by rfl) (by exact (RA24.out.alloc (.cells #[.int .i64 38, .int .i64 0, .int .i64 0, .string ⟨#[]⟩, .int .i64 39, .int .i64 ((nA : Int) + 2 + (nB : Int) + 1), .int .i64 0, .string ⟨#[]⟩] 46))) (some ⟨w14.heap.size, 0, none⟩) 2 2 (by rfl) (by exact SlR.new2 (w := w14) (e := 46) (g := w14.heap.size) (R := Ins.Is) (x := [.int .i64 38, .int .i64 0, .int .i64 0, .string ⟨#[]⟩]) (x' := [.int .i64 39, .int .i64 ((nA : Int) + 2 + (nB : Int) + 1), .int .i64 0, .string ⟨#[]⟩]) (y := (insI 38 0)) (y' := (insI 39 ((nA : Int) + 2 + (nB : Int) + 1))) rfl (by omega) rfl rfl ⟨rfl, ins_ok (by omega) (by omega) (by omega) (by omega) (by omega) (by omega) nil_size⟩ ⟨rfl, ins_ok (by omega) (by omega) (by omega) (by omega) (by omega) (by omega) nil_size⟩) (nA + 2) (by rw [HNA.out]) Ins.Is.one (by have := HNA.out; unfold maxLen; simp <;> omega) (by have := HNA.out; simp <;> omega) (by simp <;> omega) ?_)
         clear tokP _t
         intro aA' cA' w15 hown hgr
         go_must (have CS25 := Lib.hid ((CS24.out.alloc (.cells #[.int .i64 38, .int .i64 0, .int .i64 0, .string ⟨#[]⟩, .int .i64 39, .int .i64 ((nA : Int) + 2 + (nB : Int) + 1), .int .i64 0, .string ⟨#[]⟩] 46)).grown ((RA24.out.alloc (.cells #[.int .i64 38, .int .i64 0, .int .i64 0, .string ⟨#[]⟩, .int .i64 39, .int .i64 ((nA : Int) + 2 + (nB : Int) + 1), .int .i64 0, .string ⟨#[]⟩] 46)).mono (by have := CS24.out.lB; omega)) hgr))
         go_must (have RB25 := Lib.hid ((RB24.out.alloc (.cells #[.int .i64 38, .int .i64 0, .int .i64 0, .string ⟨#[]⟩, .int .i64 39, .int .i64 ((nA : Int) + 2 + (nB : Int) + 1), .int .i64 0, .string ⟨#[]⟩] 46)).keepG (RA24.out.alloc (.cells #[.int .i64 38, .int .i64 0, .int .i64 0, .string ⟨#[]⟩, .int .i64 39, .int .i64 ((nA : Int) + 2 + (nB : Int) + 1), .int .i64 0, .string ⟨#[]⟩] 46)) hgr (.inr (fun g e => by have := (UA.out g e).2; omega))))
         go_must (have Bt25 := Lib.hid ((Bt24.out.alloc (.cells #[.int .i64 38, .int .i64 0, .int .i64 0, .string ⟨#[]⟩, .int .i64 39, .int .i64 ((nA : Int) + 2 + (nB : Int) + 1), .int .i64 0, .string ⟨#[]⟩] 46)).grown hgr (fun e => by have := UA.out ((w8.heap.size + 1)) e.symm; omega)))
         go_must (have RA25 := Lib.hid hown)
         go_must (have hsw15 : w14.heap.size < w15.heap.size := by have := hgr.size; simp at this; omega)
         clear hown hgr
         clear e0 x0 x1 x2 x3 le lx k0 k1 y0 y1 y2 y3 ly yf0 yf1 yf2 yf3 t0 t1 t2 t3 lt tf0 tf1 tf2 tf3
         go_must (have e0 : (w15).cell? ⟨be, 0, none⟩ = some (.slice (some ⟨b, off, none⟩) nl lc) := CS25.out.eb.cell rfl)
         go_must (have x0 : (w15).cell? ⟨bx, 0, none⟩ = some (.int .i64 (34 : Int)) := CS25.out.xb.cell rfl)
         go_must (have x1 : (w15).cell? ⟨bx, 1, none⟩ = some (.string (txt s)) := CS25.out.xb.cell rfl)
         go_must (have x2 : (w15).cell? ⟨bx, 2, none⟩ = some (.int .i64 n) := CS25.out.xb.cell rfl)
         go_must (have x3 : (w15).cell? ⟨bx, 3, none⟩ = some (.slice (some ⟨kb, ko, none⟩) 2 kc) := CS25.out.xb.cell rfl)
         go_must (have le : be < (w15).heap.size := Nat.lt_of_lt_of_le CS25.out.le CS25.out.lB)
         go_must (have lx : bx < (w15).heap.size := Nat.lt_of_lt_of_le CS25.out.lx CS25.out.lB)
         go_must (have k0 : (w15).cell? ⟨kb, ko, none⟩ = some (.int .i64 (qta : Int)) := rkid_cell (j := 0) HKV.out Eta.out (HH.out.hw.trans (CS25.out.bel.mono HH.out.hw.size)))
         go_must (have k1 : (w15).cell? ⟨kb, ko + 1, none⟩ = some (.int .i64 (qtb : Int)) := rkid_cell (j := 1) HKV.out Etb.out (HH.out.hw.trans (CS25.out.bel.mono HH.out.hw.size)))
         go_must (have t0 : (w15).cell? ⟨(w8.heap.size + 1), 0, none⟩ = some (.int .i64 40) := Bt25.out.cell rfl)
         go_must (have t1 : (w15).cell? ⟨(w8.heap.size + 1), 1, none⟩ = some (.int .i64 ((nA : Int) + 1)) := Bt25.out.cell rfl)
         go_must (have t2 : (w15).cell? ⟨(w8.heap.size + 1), 2, none⟩ = some (.int .i64 0) := Bt25.out.cell rfl)
         go_must (have t3 : (w15).cell? ⟨(w8.heap.size + 1), 3, none⟩ = some (.string ⟨#[]⟩) := Bt25.out.cell rfl)
         go_must (have lt : (w8.heap.size + 1) < (w15).heap.size := Bt25.out.lt)
         go_must (have tf0 : (w15).frozen? ⟨(w8.heap.size + 1), 0, none⟩ = false := Bt25.out.frozen 0)
         go_must (have tf1 : (w15).frozen? ⟨(w8.heap.size + 1), 1, none⟩ = false := Bt25.out.frozen 1)
         go_must (have tf2 : (w15).frozen? ⟨(w8.heap.size + 1), 2, none⟩ = false := Bt25.out.frozen 2)
         go_must (have tf3 : (w15).frozen? ⟨(w8.heap.size + 1), 3, none⟩ = false := Bt25.out.frozen 3))
      | fail)
    all_goals
      go_wp2_with fail
      go_meet
      exact Lib.hid ⟨w15.heap.size, by omega, by omega, RT.out, CS26.out, Bt26.out⟩
  case rest =>
    rename World => w17
    obtain ⟨base, hb1, hb2, hk1, hk2, hk3⟩ := hcut.out
    clear hcut
    have CSz := Lib.hid hk2
    have Btz := Lib.hid hk3
    clear hk2 hk3
    obtain ⟨aT, cT, rfl⟩ := hk1.form
    obtain ⟨nT, hnT⟩ : ∃ z, ((thenN (oA ++ [insI 38 0, insI 39 ((nA : Int) + 2 + (nB : Int) + 1)]) oB)).length = z := ⟨_, rfl⟩
    rw [hnT] at hk1 ⊢
    have bT : nT ≤ 2100 := by rw [← hnT, thenN_len]; have := HNA.out; have := HNB.out; simp <;> omega
    have HNT := Lib.hid hnT
    have UT := Lib.hid hk1.block
    have RT := Lib.hid hk1
    clear hnT hk1
    clear e0 x0 x1 x2 x3 le lx k0 k1 y0 y1 y2 y3 ly yf0 yf1 yf2 yf3 t0 t1 t2 t3 lt tf0 tf1 tf2 tf3
    have e0 : (w17).cell? ⟨be, 0, none⟩ = some (.slice (some ⟨b, off, none⟩) nl lc) := CSz.out.eb.cell rfl
    have x0 : (w17).cell? ⟨bx, 0, none⟩ = some (.int .i64 (34 : Int)) := CSz.out.xb.cell rfl
    have x1 : (w17).cell? ⟨bx, 1, none⟩ = some (.string (txt s)) := CSz.out.xb.cell rfl
    have x2 : (w17).cell? ⟨bx, 2, none⟩ = some (.int .i64 n) := CSz.out.xb.cell rfl
    have x3 : (w17).cell? ⟨bx, 3, none⟩ = some (.slice (some ⟨kb, ko, none⟩) 2 kc) := CSz.out.xb.cell rfl
    have le : be < (w17).heap.size := Nat.lt_of_lt_of_le CSz.out.le CSz.out.lB
    have lx : bx < (w17).heap.size := Nat.lt_of_lt_of_le CSz.out.lx CSz.out.lB
    have k0 : (w17).cell? ⟨kb, ko, none⟩ = some (.int .i64 (qta : Int)) := rkid_cell (j := 0) HKV.out Eta.out (HH.out.hw.trans (CSz.out.bel.mono HH.out.hw.size))
    have k1 : (w17).cell? ⟨kb, ko + 1, none⟩ = some (.int .i64 (qtb : Int)) := rkid_cell (j := 1) HKV.out Etb.out (HH.out.hw.trans (CSz.out.bel.mono HH.out.hw.size))
    have t0 : (w17).cell? ⟨(w8.heap.size + 1), 0, none⟩ = some (.int .i64 40) := Btz.out.cell rfl
    have t1 : (w17).cell? ⟨(w8.heap.size + 1), 1, none⟩ = some (.int .i64 ((nA : Int) + 1)) := Btz.out.cell rfl
    have t2 : (w17).cell? ⟨(w8.heap.size + 1), 2, none⟩ = some (.int .i64 0) := Btz.out.cell rfl
    have t3 : (w17).cell? ⟨(w8.heap.size + 1), 3, none⟩ = some (.string ⟨#[]⟩) := Btz.out.cell rfl
    have lt : (w8.heap.size + 1) < (w17).heap.size := Btz.out.lt
    have tf0 : (w17).frozen? ⟨(w8.heap.size + 1), 0, none⟩ = false := Btz.out.frozen 0
    have tf1 : (w17).frozen? ⟨(w8.heap.size + 1), 1, none⟩ = false := Btz.out.frozen 1
    have tf2 : (w17).frozen? ⟨(w8.heap.size + 1), 2, none⟩ = false := Btz.out.frozen 2
    have tf3 : (w17).frozen? ⟨(w8.heap.size + 1), 3, none⟩ = false := Btz.out.frozen 3
    have tokR : True := trivial
    go_wp2_with (first
      | (have _t := tokR
         at_builtin
         go_must (refine wpList_append_list rfl (.tmp 193) (.tmp 195) _ (by rfl) base (w17.heap.size + 1) 46 jI _ 4 40 Tryd.underlying22 I.out.1 I.out.2.1 I.out.2.2.1 I.out.2.2.2 rfl (by omega) (R := Ins.Is) (l := (thenN (oA ++ [insI 38 0, insI 39 ((nA : Int) + 2 + (nB : Int) + 1)]) oB)) (m := [(insI 40 ((nA : Int) + 1))]) (.slice aT nT cT) (by rfl) (by exact (RT.out.alloc (.cells #[.int .i64 40, .int .i64 ((nA : Int) + 1), .int .i64 0, .string ⟨#[]⟩] 46))) (some ⟨w17.heap.size, 0, none⟩) 1 1 (by rfl) (SlR.new1 (w := w17) (e := 46) (g := w17.heap.size) rfl (x := [.int .i64 40, .int .i64 ((nA : Int) + 1), .int .i64 0, .string ⟨#[]⟩]) rfl (R := Ins.Is) (y := (insI 40 ((nA : Int) + 1))) ⟨rfl, ins_ok (by omega) (by omega) (by omega) (by omega) (by omega) (by omega) nil_size⟩) (nT + 1) (by rw [HNT.out]) Ins.Is.one (by have := HNT.out; unfold maxLen; simp <;> omega) (by have := HNT.out; simp <;> omega) (by simp <;> omega) ?_)
         clear tokR _t
         intro aT' cT' w18 hown hgr
         go_must (have CS11 := Lib.hid ((CSz.out.alloc (.cells #[.int .i64 40, .int .i64 ((nA : Int) + 1), .int .i64 0, .string ⟨#[]⟩] 46)).grown ((RT.out.alloc (.cells #[.int .i64 40, .int .i64 ((nA : Int) + 1), .int .i64 0, .string ⟨#[]⟩] 46)).mono (by have := CSz.out.lB; omega)) hgr))
         go_must (have RT11 := Lib.hid hown)
         go_must (have hsw18 : w17.heap.size < w18.heap.size := by have := hgr.size; simp at this; omega)
         clear hown hgr
         clear e0 x0 x1 x2 x3 le lx k0 k1 t0 t1 t2 t3 lt tf0 tf1 tf2 tf3
         go_must (have e0 : (w18).cell? ⟨be, 0, none⟩ = some (.slice (some ⟨b, off, none⟩) nl lc) := CS11.out.eb.cell rfl)
         go_must (have x0 : (w18).cell? ⟨bx, 0, none⟩ = some (.int .i64 (34 : Int)) := CS11.out.xb.cell rfl)
         go_must (have x1 : (w18).cell? ⟨bx, 1, none⟩ = some (.string (txt s)) := CS11.out.xb.cell rfl)
         go_must (have x2 : (w18).cell? ⟨bx, 2, none⟩ = some (.int .i64 n) := CS11.out.xb.cell rfl)
         go_must (have x3 : (w18).cell? ⟨bx, 3, none⟩ = some (.slice (some ⟨kb, ko, none⟩) 2 kc) := CS11.out.xb.cell rfl)
         go_must (have le : be < (w18).heap.size := Nat.lt_of_lt_of_le CS11.out.le CS11.out.lB)
         go_must (have lx : bx < (w18).heap.size := Nat.lt_of_lt_of_le CS11.out.lx CS11.out.lB)
         go_must (have k0 : (w18).cell? ⟨kb, ko, none⟩ = some (.int .i64 (qta : Int)) := rkid_cell (j := 0) HKV.out Eta.out (HH.out.hw.trans (CS11.out.bel.mono HH.out.hw.size)))
         go_must (have k1 : (w18).cell? ⟨kb, ko + 1, none⟩ = some (.int .i64 (qtb : Int)) := rkid_cell (j := 1) HKV.out Etb.out (HH.out.hw.trans (CS11.out.bel.mono HH.out.hw.size))))
      | fail)
    go_ret
    rw [HCR.out]
    rw [HNA.out, HNB.out]
    exact rcodeK_of (RT11.out.mono (by omega)) CS11.out.bel
end Go.Proofs.YtdkoafmgenbkbaaDoor
