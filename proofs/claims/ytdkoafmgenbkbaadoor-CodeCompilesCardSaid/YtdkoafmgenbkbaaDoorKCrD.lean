/- Taken over out of another chapter (its text CrD): what is needed here. -/
import Derived.Test.YtdkoafmgenbkbaaDoorProg
import Derived.Test.YtdkoafmgenbkbaaDoorShelf
import Derived.Test.YtdkoafmgenbkbaaDoorCards
import Derived.Test.YtdkoafmgenbkbaaDoorTie
import Derived.Test.YtdkoafmgenbkbaaDoorKM1
import Derived.Test.YtdkoafmgenbkbaaDoorKM2
import Derived.Test.YtdkoafmgenbkbaaDoorKM3
import Derived.Test.YtdkoafmgenbkbaaDoorKCpR
import Derived.Test.YtdkoafmgenbkbaaDoorKM5
import Derived.Test.YtdkoafmgenbkbaaDoorKM4
import Derived.Below
import Derived.BigQuiet
import Derived.BigRegion
import Derived.Deep.AppendLies
import Derived.Deep.CutBlock
import Derived.Deep.CutRange
import Derived.Deep.Draws
import Derived.Deep.Fields
import Derived.Deep.LoopGhost
import Derived.Deep.QuietTactic
import Derived.Deep.RegionHeld2
import Derived.Deep.RegionHeld3
import Derived.Deep.RegionLaw
import Derived.Deep.Slices
import Derived.Defers
import Derived.IntWalk
import Derived.Laws.BytesString
import Derived.Laws.Cover1
import Derived.Laws.EntriesVeiled
import Derived.Laws.IdiomStrings
import Derived.Laws.MakeOwn
import Derived.Laws.Pointers
import Derived.Laws.Rows
import Derived.Lib.AppendStr
import Derived.Lib.Builder
import Derived.Lib.CutLaws
import Derived.Lib.FrozenHead
import Derived.Lib.Hide
import Derived.Lib.ItoaNum
import Derived.Lib.ParseIntB
import Derived.Lib.SliceRun
import Derived.Lib.SlicesS
import Derived.Maps.AppendAt
import Derived.Orders
import Derived.Outline
import Derived.OwnWalk
import Derived.ProofKit
import Derived.Recover
import Derived.RegionTactic
import Derived.StillTailTactics
import Derived.Tactics
import Derived.Tactics2
import Derived.WalkKit
import Derived.WalkMore
import Derived.WalkSmall
import Derived.WalkSpells
namespace Go.Proofs.YtdkoafmgenbkbaaDoor
set_option linter.unusedSimpArgs false
set_option linter.unusedVariables false
open Go.RowKit
set_option maxRecDepth 100000 in
set_option maxHeartbeats 8000000 in
theorem rcode_iff {l : List ND} {lv : Value} {W0 : World} {f p : Nat} {s : List Nat} {n m : Int} {ta tb tc : Tr} {vs : List (List Nat)} {W : World} (H : RPre l lv W0 (f + 1) (.node 30 s n [ta, tb, tc]) p vs m W) (ih : RCodeIs l lv W0 f) : Calls Tryd.prog 30 #[.agg #[lv], .int .i64 (p : Int), .int .i64 m] W (RCodeK W (cR (f + 1) (.node 30 s n [ta, tb, tc]) vs m)) := by
  obtain ⟨hd, hks⟩ := stands_node H.st
  obtain ⟨la, lc, rfl, _, _⟩ := H.hs.form
  have hpl := (List.getElem?_eq_some_iff.1 hd).1
  obtain ⟨nl, hnl⟩ : ∃ z, l.length = z := ⟨_, rfl⟩
  rw [hnl] at H hpl ⊢
  try rw [hnl] at ih
  have hB6 := H.hw.alloc H.hw.size (.cells #[.slice la nl lc] 38)
  have hhs := H.hs
  obtain ⟨b, off, x, rfl, hbB, hxl, ⟨kv, rfl, hkv⟩, hx⟩ := (hhs.below hB6).at_ hd
  obtain ⟨ka, kc, rfl, _, _⟩ := hkv.form
  simp only [List.length_map, places_len] at hkv hx
  simp only [List.length_cons, List.length_nil, Nat.zero_add, Nat.reduceAdd] at hkv hx
  have x0 := hx 0 _ rfl
  have x1 := hx 1 _ rfl
  have x2 := hx 2 _ rfl
  have x3 := hx 3 _ rfl
  simp only [Nat.add_zero] at x0
  have p0 : (0 : Int) ≤ (p : Int) := Int.natCast_nonneg _
  have p1 : (p : Int) < (nl : Int) := by omega
  have HH := Lib.hid H
  have HNL := Lib.hid hnl
  have HKV := Lib.hid hkv
  have m1 := H.m1
  have m2 : m ≤ 1000 := by have := H.mf; omega
  obtain ⟨jI, hi, hz, hsz, hby⟩ := info_parts info_Ins
  have I := Lib.hid (And.intro hi (And.intro hz (And.intro hsz hby)))
  clear hi hz hsz hby H hd hkv hx hxl hks hnl hhs hB6
  go_enter Tryd.func30, Tryd.ntmps30
  go_upto_region 1 with fail
  have e0 : (W.alloc (.cells #[(.slice (some ⟨b, off, none⟩) nl lc)] 38)).cell? ⟨W.heap.size, 0, none⟩ = some (.slice (some ⟨b, off, none⟩) nl lc) := (Blk.new W 38 #[(.slice (some ⟨b, off, none⟩) nl lc)]).cell rfl
  have lw0 : W.heap.size < (W.alloc (.cells #[(.slice (some ⟨b, off, none⟩) nl lc)] 38)).heap.size := (Blk.new W 38 #[(.slice (some ⟨b, off, none⟩) nl lc)]).lt
  generalize hW1 : W.alloc (.cells #[(.slice (some ⟨b, off, none⟩) nl lc)] 38) = W1 at *
  have HW1 := Lib.hid hW1
  clear hW1
  go_upto_region 4 with (first
    | (go_at_call 55; go_must (refine (rins_step _).mono ?_); rintro e w2 ⟨rfl, hb⟩; go_must (have HB := Lib.hid (CSt.make HW1.out.symm hb)); clear hb)
    | fail)
  clear x0 x1 x2 x3 e0 lw0
  have CS := Lib.hid (HB.out.alloc (.cells #[.int .i64 1, .int .i64 m, .int .i64 0, .string ⟨#[]⟩] 46))
  have SK := Lib.hid (Blk.new w2 46 #[.int .i64 1, .int .i64 m, .int .i64 0, .string ⟨#[]⟩])
  generalize hW3 : w2.alloc (.cells #[.int .i64 1, .int .i64 m, .int .i64 0, .string ⟨#[]⟩] 46) = W3 at *
  obtain ⟨be, hbe⟩ : ∃ z, W.heap.size = z := ⟨_, rfl⟩
  obtain ⟨bx, hbx⟩ : ∃ z, W1.heap.size = z := ⟨_, rfl⟩
  obtain ⟨bs, hbs⟩ : ∃ z, w2.heap.size = z := ⟨_, rfl⟩
  rw [hbe] at CS
  rw [hbx, hbs] at CS
  rw [hbs] at SK
  first | rw [hbe, hbx, hbs] | rw [hbx, hbe, hbs]
  clear HB hW3 hbx hbs HW1
  have e0 : (W3).cell? ⟨be, 0, none⟩ = some (.slice (some ⟨b, off, none⟩) nl lc) := CS.out.eb.cell rfl
  have x0 : (W3).cell? ⟨bx, 0, none⟩ = some (.int .i64 (30 : Int)) := CS.out.xb.cell rfl
  have x1 : (W3).cell? ⟨bx, 1, none⟩ = some (.string (txt s)) := CS.out.xb.cell rfl
  have x2 : (W3).cell? ⟨bx, 2, none⟩ = some (.int .i64 n) := CS.out.xb.cell rfl
  have x3 : (W3).cell? ⟨bx, 3, none⟩ = some (.slice ka 3 kc) := CS.out.xb.cell rfl
  have le : be < (W3).heap.size := Nat.lt_of_lt_of_le CS.out.le CS.out.lB
  have lx : bx < (W3).heap.size := Nat.lt_of_lt_of_le CS.out.lx CS.out.lB
  have HSZ : Hid (1 + sizeL [ta, tb, tc] ≤ 256) := Lib.hid (by have h1 := stands_size HH.out.st; have h2 := HH.out.hl; have := HNL.out; simp only [Tr.size] at h1; omega)
  obtain ⟨qta, sta, uta, eta⟩ := rkid HH.out.st HH.out.un (j := 0) (a := ta) rfl
  rw [if_neg (by omega)] at uta
  have Sta := Lib.hid sta
  have Vta := Lib.hid uta
  have Eta := Lib.hid eta
  clear sta uta eta
  obtain ⟨qtb, stb, utb, etb⟩ := rkid HH.out.st HH.out.un (j := 1) (a := tb) rfl
  rw [if_neg (by omega)] at utb
  have Stb := Lib.hid stb
  have Vtb := Lib.hid utb
  have Etb := Lib.hid etb
  clear stb utb etb
  obtain ⟨qtc, stc, utc, etc⟩ := rkid HH.out.st HH.out.un (j := 2) (a := tc) rfl
  rw [if_neg (by omega)] at utc
  have Stc := Lib.hid stc
  have Vtc := Lib.hid utc
  have Etc := Lib.hid etc
  clear stc utc etc
  obtain ⟨kb, ko, rfl⟩ := kid_form HKV.out (stands_node HH.out.st).2 (j := 0) (t := ta) rfl
  have wr1 : IntKind.i64.wrap (m + 1) = m + 1 := by rw [IntKind.wrap_i64]; omega
  have hs0 : bs ≤ W3.heap.size := CS.out.lB
  have hwl : W.heap.size ≤ bs := CS.out.wl
  obtain ⟨oA, hoA⟩ : ∃ z, cR f ta vs (m + 1) = z := ⟨_, rfl⟩
  have HOA := Lib.hid hoA
  have OPSA : Hid (∀ y ∈ oA, (1 ≤ y.op ∧ y.op ≤ 40) ∧ -1000000 ≤ y.arg ∧ y.arg ≤ 1000000) := Lib.hid (by rw [← hoA]; exact rcode_ops HH.out (j := 0) rfl (by simp) (by omega) (by omega))
  clear hoA
  obtain ⟨oB, hoB⟩ : ∃ z, cR f tb vs (1) = z := ⟨_, rfl⟩
  have HOB := Lib.hid hoB
  have OPSB : Hid (∀ y ∈ oB, (1 ≤ y.op ∧ y.op ≤ 40) ∧ -1000000 ≤ y.arg ∧ y.arg ≤ 1000000) := Lib.hid (by rw [← hoB]; exact rcode_ops HH.out (j := 1) rfl (by simp) (by omega) (by omega))
  clear hoB
  obtain ⟨oC, hoC⟩ : ∃ z, cR f tc vs (1) = z := ⟨_, rfl⟩
  have HOC := Lib.hid hoC
  have OPSC : Hid (∀ y ∈ oC, (1 ≤ y.op ∧ y.op ≤ 40) ∧ -1000000 ≤ y.arg ∧ y.arg ≤ 1000000) := Lib.hid (by rw [← hoC]; exact rcode_ops HH.out (j := 2) rfl (by simp) (by omega) (by omega))
  clear hoC
  have hcr : cR (f + 1) (.node 30 s n [ta, tb, tc]) vs m = thenN (thenN (oA ++ [insI 33 ((oA.length : Int) + 1 + (oB.length : Int) + 1)]) oB ++ [insI 34 ((oA.length : Int) + 1 + (oB.length : Int) + 1 + (oC.length : Int))]) oC := by rw [← HOA.out, ← HOB.out, ← HOC.out]; rfl
  have HCR := Lib.hid hcr
  clear hcr
  clear e0 x0 x1 x2 x3 le lx
  have e0 : (W3).cell? ⟨be, 0, none⟩ = some (.slice (some ⟨b, off, none⟩) nl lc) := CS.out.eb.cell rfl
  have x0 : (W3).cell? ⟨bx, 0, none⟩ = some (.int .i64 (30 : Int)) := CS.out.xb.cell rfl
  have x1 : (W3).cell? ⟨bx, 1, none⟩ = some (.string (txt s)) := CS.out.xb.cell rfl
  have x2 : (W3).cell? ⟨bx, 2, none⟩ = some (.int .i64 n) := CS.out.xb.cell rfl
  have x3 : (W3).cell? ⟨bx, 3, none⟩ = some (.slice (some ⟨kb, ko, none⟩) 3 kc) := CS.out.xb.cell rfl
  have le : be < (W3).heap.size := Nat.lt_of_lt_of_le CS.out.le CS.out.lB
  have lx : bx < (W3).heap.size := Nat.lt_of_lt_of_le CS.out.lx CS.out.lB
  have k0 : (W3).cell? ⟨kb, ko, none⟩ = some (.int .i64 (qta : Int)) := rkid_cell (j := 0) HKV.out Eta.out (HH.out.hw.trans (CS.out.bel.mono HH.out.hw.size))
  have k1 : (W3).cell? ⟨kb, ko + 1, none⟩ = some (.int .i64 (qtb : Int)) := rkid_cell (j := 1) HKV.out Etb.out (HH.out.hw.trans (CS.out.bel.mono HH.out.hw.size))
  have k2 : (W3).cell? ⟨kb, ko + 2, none⟩ = some (.int .i64 (qtc : Int)) := rkid_cell (j := 2) HKV.out Etc.out (HH.out.hw.trans (CS.out.bel.mono HH.out.hw.size))
  go_upto_region 20 with fail
  go_still_tail 7, (by kernel_rfl)
  change wpList _ _ _ _ _ W3.drew
  have CS1 := Lib.hid (CS.out.drew)
  have hsW4 : W3.heap.size ≤ W3.drew.heap.size := Nat.le_refl _
  generalize W3.drew = W4 at *
  clear e0 x0 x1 x2 x3 le lx k0 k1 k2
  have e0 : (W4).cell? ⟨be, 0, none⟩ = some (.slice (some ⟨b, off, none⟩) nl lc) := CS1.out.eb.cell rfl
  have x0 : (W4).cell? ⟨bx, 0, none⟩ = some (.int .i64 (30 : Int)) := CS1.out.xb.cell rfl
  have x1 : (W4).cell? ⟨bx, 1, none⟩ = some (.string (txt s)) := CS1.out.xb.cell rfl
  have x2 : (W4).cell? ⟨bx, 2, none⟩ = some (.int .i64 n) := CS1.out.xb.cell rfl
  have x3 : (W4).cell? ⟨bx, 3, none⟩ = some (.slice (some ⟨kb, ko, none⟩) 3 kc) := CS1.out.xb.cell rfl
  have le : be < (W4).heap.size := Nat.lt_of_lt_of_le CS1.out.le CS1.out.lB
  have lx : bx < (W4).heap.size := Nat.lt_of_lt_of_le CS1.out.lx CS1.out.lB
  have k0 : (W4).cell? ⟨kb, ko, none⟩ = some (.int .i64 (qta : Int)) := rkid_cell (j := 0) HKV.out Eta.out (HH.out.hw.trans (CS1.out.bel.mono HH.out.hw.size))
  have k1 : (W4).cell? ⟨kb, ko + 1, none⟩ = some (.int .i64 (qtb : Int)) := rkid_cell (j := 1) HKV.out Etb.out (HH.out.hw.trans (CS1.out.bel.mono HH.out.hw.size))
  have k2 : (W4).cell? ⟨kb, ko + 2, none⟩ = some (.int .i64 (qtc : Int)) := rkid_cell (j := 2) HKV.out Etc.out (HH.out.hw.trans (CS1.out.bel.mono HH.out.hw.size))
  have tokA : True := trivial
  go_upto_region 30 with (first
    | (have _t := tokA; go_at_call 30; go_must (refine (ih ta qta vs (m + 1) _ (RPre.kid (j := 0) HH.out rfl Sta.out Vta.out (by simp) (by omega) (by omega) CS1.out.bel)).mono ?_); clear tokA _t
       rintro e w5 ⟨ov, rfl, hk1, hk2⟩
       go_must (have CS2 := Lib.hid (CS1.out.call hk2))
       rw [HOA.out] at hk1
       go_must (have hsw5 := hk2.size)
       obtain ⟨aA, cA, rfl⟩ := hk1.form
       obtain ⟨nA, hnA⟩ : ∃ z, (oA).length = z := ⟨_, rfl⟩
       rw [hnA] at hk1 ⊢
       go_must (have bA : nA ≤ 1024 := by rw [← hnA, ← HOA.out]; have := cR_len f ta vs (m + 1); have := HSZ.out; simp only [sizeL] at this; omega)
       go_must (have HNA := Lib.hid hnA)
       go_must (have UA := Lib.hid hk1.block)
       go_must (have RA := Lib.hid hk1)
       clear hnA hk1
       clear hk2
       clear e0 x0 x1 x2 x3 le lx k0 k1 k2
       go_must (have e0 : (w5).cell? ⟨be, 0, none⟩ = some (.slice (some ⟨b, off, none⟩) nl lc) := CS2.out.eb.cell rfl)
       go_must (have x0 : (w5).cell? ⟨bx, 0, none⟩ = some (.int .i64 (30 : Int)) := CS2.out.xb.cell rfl)
       go_must (have x1 : (w5).cell? ⟨bx, 1, none⟩ = some (.string (txt s)) := CS2.out.xb.cell rfl)
       go_must (have x2 : (w5).cell? ⟨bx, 2, none⟩ = some (.int .i64 n) := CS2.out.xb.cell rfl)
       go_must (have x3 : (w5).cell? ⟨bx, 3, none⟩ = some (.slice (some ⟨kb, ko, none⟩) 3 kc) := CS2.out.xb.cell rfl)
       go_must (have le : be < (w5).heap.size := Nat.lt_of_lt_of_le CS2.out.le CS2.out.lB)
       go_must (have lx : bx < (w5).heap.size := Nat.lt_of_lt_of_le CS2.out.lx CS2.out.lB)
       go_must (have k0 : (w5).cell? ⟨kb, ko, none⟩ = some (.int .i64 (qta : Int)) := rkid_cell (j := 0) HKV.out Eta.out (HH.out.hw.trans (CS2.out.bel.mono HH.out.hw.size)))
       go_must (have k1 : (w5).cell? ⟨kb, ko + 1, none⟩ = some (.int .i64 (qtb : Int)) := rkid_cell (j := 1) HKV.out Etb.out (HH.out.hw.trans (CS2.out.bel.mono HH.out.hw.size)))
       go_must (have k2 : (w5).cell? ⟨kb, ko + 2, none⟩ = some (.int .i64 (qtc : Int)) := rkid_cell (j := 2) HKV.out Etc.out (HH.out.hw.trans (CS2.out.bel.mono HH.out.hw.size))))
    | fail)
  have tokY : True := trivial
  have tokJ : True := trivial
  go_upto_region 31 with (first
    | (have _t := tokY; go_at_call 55; go_must (refine (rins_unless _).mono ?_); clear tokY _t
       rintro e w6 ⟨rfl, hb⟩
       go_must (have CS3 := Lib.hid (CS2.out.call hb))
       go_must (have RA3 := Lib.hid (RA.out.below hb (Nat.le_refl _)))
       go_must (have hsw6 := hb.size)
       clear hb
       clear e0 x0 x1 x2 x3 le lx k0 k1 k2
       go_must (have e0 : (w6).cell? ⟨be, 0, none⟩ = some (.slice (some ⟨b, off, none⟩) nl lc) := CS3.out.eb.cell rfl)
       go_must (have x0 : (w6).cell? ⟨bx, 0, none⟩ = some (.int .i64 (30 : Int)) := CS3.out.xb.cell rfl)
       go_must (have x1 : (w6).cell? ⟨bx, 1, none⟩ = some (.string (txt s)) := CS3.out.xb.cell rfl)
       go_must (have x2 : (w6).cell? ⟨bx, 2, none⟩ = some (.int .i64 n) := CS3.out.xb.cell rfl)
       go_must (have x3 : (w6).cell? ⟨bx, 3, none⟩ = some (.slice (some ⟨kb, ko, none⟩) 3 kc) := CS3.out.xb.cell rfl)
       go_must (have le : be < (w6).heap.size := Nat.lt_of_lt_of_le CS3.out.le CS3.out.lB)
       go_must (have lx : bx < (w6).heap.size := Nat.lt_of_lt_of_le CS3.out.lx CS3.out.lB)
       go_must (have k0 : (w6).cell? ⟨kb, ko, none⟩ = some (.int .i64 (qta : Int)) := rkid_cell (j := 0) HKV.out Eta.out (HH.out.hw.trans (CS3.out.bel.mono HH.out.hw.size)))
       go_must (have k1 : (w6).cell? ⟨kb, ko + 1, none⟩ = some (.int .i64 (qtb : Int)) := rkid_cell (j := 1) HKV.out Etb.out (HH.out.hw.trans (CS3.out.bel.mono HH.out.hw.size)))
       go_must (have k2 : (w6).cell? ⟨kb, ko + 2, none⟩ = some (.int .i64 (qtc : Int)) := rkid_cell (j := 2) HKV.out Etc.out (HH.out.hw.trans (CS3.out.bel.mono HH.out.hw.size))))
    | (have _t := tokJ; go_at_call 55; go_must (refine (rins_jump _).mono ?_); clear tokJ _t
       rintro e w7 ⟨rfl, hb⟩
       go_must (have CS4 := Lib.hid (CS3.out.call hb))
       go_must (have RA4 := Lib.hid (RA3.out.below hb (Nat.le_refl _)))
       go_must (have hsw7 := hb.size)
       clear hb
       clear e0 x0 x1 x2 x3 le lx k0 k1 k2
       go_must (have e0 : (w7).cell? ⟨be, 0, none⟩ = some (.slice (some ⟨b, off, none⟩) nl lc) := CS4.out.eb.cell rfl)
       go_must (have x0 : (w7).cell? ⟨bx, 0, none⟩ = some (.int .i64 (30 : Int)) := CS4.out.xb.cell rfl)
       go_must (have x1 : (w7).cell? ⟨bx, 1, none⟩ = some (.string (txt s)) := CS4.out.xb.cell rfl)
       go_must (have x2 : (w7).cell? ⟨bx, 2, none⟩ = some (.int .i64 n) := CS4.out.xb.cell rfl)
       go_must (have x3 : (w7).cell? ⟨bx, 3, none⟩ = some (.slice (some ⟨kb, ko, none⟩) 3 kc) := CS4.out.xb.cell rfl)
       go_must (have le : be < (w7).heap.size := Nat.lt_of_lt_of_le CS4.out.le CS4.out.lB)
       go_must (have lx : bx < (w7).heap.size := Nat.lt_of_lt_of_le CS4.out.lx CS4.out.lB)
       go_must (have k0 : (w7).cell? ⟨kb, ko, none⟩ = some (.int .i64 (qta : Int)) := rkid_cell (j := 0) HKV.out Eta.out (HH.out.hw.trans (CS4.out.bel.mono HH.out.hw.size)))
       go_must (have k1 : (w7).cell? ⟨kb, ko + 1, none⟩ = some (.int .i64 (qtb : Int)) := rkid_cell (j := 1) HKV.out Etb.out (HH.out.hw.trans (CS4.out.bel.mono HH.out.hw.size)))
       go_must (have k2 : (w7).cell? ⟨kb, ko + 2, none⟩ = some (.int .i64 (qtc : Int)) := rkid_cell (j := 2) HKV.out Etc.out (HH.out.hw.trans (CS4.out.bel.mono HH.out.hw.size))))
    | fail)
  have CS5 := Lib.hid ((CS4.out.alloc (.cells #[.int .i64 33, .int .i64 0, .int .i64 0, .string ⟨#[]⟩] 46)).alloc (.cells #[.int .i64 34, .int .i64 0, .int .i64 0, .string ⟨#[]⟩] 46))
  have RA5 := Lib.hid ((RA4.out.alloc (.cells #[.int .i64 33, .int .i64 0, .int .i64 0, .string ⟨#[]⟩] 46)).alloc (.cells #[.int .i64 34, .int .i64 0, .int .i64 0, .string ⟨#[]⟩] 46))
  have By := Lib.hid ((Blk.new w7 46 #[.int .i64 33, .int .i64 0, .int .i64 0, .string ⟨#[]⟩]).alloc (.cells #[.int .i64 34, .int .i64 0, .int .i64 0, .string ⟨#[]⟩] 46))
  have Bj := Lib.hid (Blk.new_ (w := w7.alloc (.cells #[.int .i64 33, .int .i64 0, .int .i64 0, .string ⟨#[]⟩] 46)) (g := w7.heap.size + 1) (by simp) 46 #[.int .i64 34, .int .i64 0, .int .i64 0, .string ⟨#[]⟩])
  have hsW8 : w7.heap.size + 1 < ((w7.alloc (.cells #[.int .i64 33, .int .i64 0, .int .i64 0, .string ⟨#[]⟩] 46)).alloc (.cells #[.int .i64 34, .int .i64 0, .int .i64 0, .string ⟨#[]⟩] 46)).heap.size := by simp
  generalize (w7.alloc (.cells #[.int .i64 33, .int .i64 0, .int .i64 0, .string ⟨#[]⟩] 46)).alloc (.cells #[.int .i64 34, .int .i64 0, .int .i64 0, .string ⟨#[]⟩] 46) = W8 at *
  clear e0 x0 x1 x2 x3 le lx k0 k1 k2
  have e0 : (W8).cell? ⟨be, 0, none⟩ = some (.slice (some ⟨b, off, none⟩) nl lc) := CS5.out.eb.cell rfl
  have x0 : (W8).cell? ⟨bx, 0, none⟩ = some (.int .i64 (30 : Int)) := CS5.out.xb.cell rfl
  have x1 : (W8).cell? ⟨bx, 1, none⟩ = some (.string (txt s)) := CS5.out.xb.cell rfl
  have x2 : (W8).cell? ⟨bx, 2, none⟩ = some (.int .i64 n) := CS5.out.xb.cell rfl
  have x3 : (W8).cell? ⟨bx, 3, none⟩ = some (.slice (some ⟨kb, ko, none⟩) 3 kc) := CS5.out.xb.cell rfl
  have le : be < (W8).heap.size := Nat.lt_of_lt_of_le CS5.out.le CS5.out.lB
  have lx : bx < (W8).heap.size := Nat.lt_of_lt_of_le CS5.out.lx CS5.out.lB
  have k0 : (W8).cell? ⟨kb, ko, none⟩ = some (.int .i64 (qta : Int)) := rkid_cell (j := 0) HKV.out Eta.out (HH.out.hw.trans (CS5.out.bel.mono HH.out.hw.size))
  have k1 : (W8).cell? ⟨kb, ko + 1, none⟩ = some (.int .i64 (qtb : Int)) := rkid_cell (j := 1) HKV.out Etb.out (HH.out.hw.trans (CS5.out.bel.mono HH.out.hw.size))
  have k2 : (W8).cell? ⟨kb, ko + 2, none⟩ = some (.int .i64 (qtc : Int)) := rkid_cell (j := 2) HKV.out Etc.out (HH.out.hw.trans (CS5.out.bel.mono HH.out.hw.size))
  have y0 : (W8).cell? ⟨w7.heap.size, 0, none⟩ = some (.int .i64 33) := By.out.cell rfl
  have y1 : (W8).cell? ⟨w7.heap.size, 1, none⟩ = some (.int .i64 0) := By.out.cell rfl
  have y2 : (W8).cell? ⟨w7.heap.size, 2, none⟩ = some (.int .i64 0) := By.out.cell rfl
  have y3 : (W8).cell? ⟨w7.heap.size, 3, none⟩ = some (.string ⟨#[]⟩) := By.out.cell rfl
  have ly : w7.heap.size < (W8).heap.size := By.out.lt
  have yf0 : (W8).frozen? ⟨w7.heap.size, 0, none⟩ = false := By.out.frozen 0
  have yf1 : (W8).frozen? ⟨w7.heap.size, 1, none⟩ = false := By.out.frozen 1
  have yf2 : (W8).frozen? ⟨w7.heap.size, 2, none⟩ = false := By.out.frozen 2
  have yf3 : (W8).frozen? ⟨w7.heap.size, 3, none⟩ = false := By.out.frozen 3
  have j0 : (W8).cell? ⟨(w7.heap.size + 1), 0, none⟩ = some (.int .i64 34) := Bj.out.cell rfl
  have j1 : (W8).cell? ⟨(w7.heap.size + 1), 1, none⟩ = some (.int .i64 0) := Bj.out.cell rfl
  have j2 : (W8).cell? ⟨(w7.heap.size + 1), 2, none⟩ = some (.int .i64 0) := Bj.out.cell rfl
  have j3 : (W8).cell? ⟨(w7.heap.size + 1), 3, none⟩ = some (.string ⟨#[]⟩) := Bj.out.cell rfl
  have lj : (w7.heap.size + 1) < (W8).heap.size := Bj.out.lt
  have jf0 : (W8).frozen? ⟨(w7.heap.size + 1), 0, none⟩ = false := Bj.out.frozen 0
  have jf1 : (W8).frozen? ⟨(w7.heap.size + 1), 1, none⟩ = false := Bj.out.frozen 1
  have jf2 : (W8).frozen? ⟨(w7.heap.size + 1), 2, none⟩ = false := Bj.out.frozen 2
  have jf3 : (W8).frozen? ⟨(w7.heap.size + 1), 3, none⟩ = false := Bj.out.frozen 3
  go_still_tail 5, (by kernel_rfl)
  change wpList _ _ _ _ _ W8.drew
  have CS6 := Lib.hid (CS5.out.drew)
  have RA6 := Lib.hid (RA5.out.drew)
  have By6 := Lib.hid (By.out.drwC)
  have Bj6 := Lib.hid (Bj.out.drwC)
  have hsW9 : W8.heap.size ≤ W8.drew.heap.size := Nat.le_refl _
  generalize W8.drew = W9 at *
  clear e0 x0 x1 x2 x3 le lx k0 k1 k2 y0 y1 y2 y3 ly yf0 yf1 yf2 yf3 j0 j1 j2 j3 lj jf0 jf1 jf2 jf3
  have e0 : (W9).cell? ⟨be, 0, none⟩ = some (.slice (some ⟨b, off, none⟩) nl lc) := CS6.out.eb.cell rfl
  have x0 : (W9).cell? ⟨bx, 0, none⟩ = some (.int .i64 (30 : Int)) := CS6.out.xb.cell rfl
  have x1 : (W9).cell? ⟨bx, 1, none⟩ = some (.string (txt s)) := CS6.out.xb.cell rfl
  have x2 : (W9).cell? ⟨bx, 2, none⟩ = some (.int .i64 n) := CS6.out.xb.cell rfl
  have x3 : (W9).cell? ⟨bx, 3, none⟩ = some (.slice (some ⟨kb, ko, none⟩) 3 kc) := CS6.out.xb.cell rfl
  have le : be < (W9).heap.size := Nat.lt_of_lt_of_le CS6.out.le CS6.out.lB
  have lx : bx < (W9).heap.size := Nat.lt_of_lt_of_le CS6.out.lx CS6.out.lB
  have k0 : (W9).cell? ⟨kb, ko, none⟩ = some (.int .i64 (qta : Int)) := rkid_cell (j := 0) HKV.out Eta.out (HH.out.hw.trans (CS6.out.bel.mono HH.out.hw.size))
  have k1 : (W9).cell? ⟨kb, ko + 1, none⟩ = some (.int .i64 (qtb : Int)) := rkid_cell (j := 1) HKV.out Etb.out (HH.out.hw.trans (CS6.out.bel.mono HH.out.hw.size))
  have k2 : (W9).cell? ⟨kb, ko + 2, none⟩ = some (.int .i64 (qtc : Int)) := rkid_cell (j := 2) HKV.out Etc.out (HH.out.hw.trans (CS6.out.bel.mono HH.out.hw.size))
  have y0 : (W9).cell? ⟨w7.heap.size, 0, none⟩ = some (.int .i64 33) := By6.out.cell rfl
  have y1 : (W9).cell? ⟨w7.heap.size, 1, none⟩ = some (.int .i64 0) := By6.out.cell rfl
  have y2 : (W9).cell? ⟨w7.heap.size, 2, none⟩ = some (.int .i64 0) := By6.out.cell rfl
  have y3 : (W9).cell? ⟨w7.heap.size, 3, none⟩ = some (.string ⟨#[]⟩) := By6.out.cell rfl
  have ly : w7.heap.size < (W9).heap.size := By6.out.lt
  have yf0 : (W9).frozen? ⟨w7.heap.size, 0, none⟩ = false := By6.out.frozen 0
  have yf1 : (W9).frozen? ⟨w7.heap.size, 1, none⟩ = false := By6.out.frozen 1
  have yf2 : (W9).frozen? ⟨w7.heap.size, 2, none⟩ = false := By6.out.frozen 2
  have yf3 : (W9).frozen? ⟨w7.heap.size, 3, none⟩ = false := By6.out.frozen 3
  have j0 : (W9).cell? ⟨(w7.heap.size + 1), 0, none⟩ = some (.int .i64 34) := Bj6.out.cell rfl
  have j1 : (W9).cell? ⟨(w7.heap.size + 1), 1, none⟩ = some (.int .i64 0) := Bj6.out.cell rfl
  have j2 : (W9).cell? ⟨(w7.heap.size + 1), 2, none⟩ = some (.int .i64 0) := Bj6.out.cell rfl
  have j3 : (W9).cell? ⟨(w7.heap.size + 1), 3, none⟩ = some (.string ⟨#[]⟩) := Bj6.out.cell rfl
  have lj : (w7.heap.size + 1) < (W9).heap.size := Bj6.out.lt
  have jf0 : (W9).frozen? ⟨(w7.heap.size + 1), 0, none⟩ = false := Bj6.out.frozen 0
  have jf1 : (W9).frozen? ⟨(w7.heap.size + 1), 1, none⟩ = false := Bj6.out.frozen 1
  have jf2 : (W9).frozen? ⟨(w7.heap.size + 1), 2, none⟩ = false := Bj6.out.frozen 2
  have jf3 : (W9).frozen? ⟨(w7.heap.size + 1), 3, none⟩ = false := Bj6.out.frozen 3
  have tokB : True := trivial
  go_upto_region 32 with (first
    | (have _t := tokB; go_at_call 30; go_must (refine (ih tb qtb vs (1) _ (RPre.kid (j := 1) HH.out rfl Stb.out Vtb.out (by simp) (by omega) (by omega) CS6.out.bel)).mono ?_); clear tokB _t
       rintro e w10 ⟨ov, rfl, hk1, hk2⟩
       go_must (have CS7 := Lib.hid (CS6.out.call hk2))
       rw [HOB.out] at hk1
       go_must (have RA7 := Lib.hid (RA6.out.below hk2 (Nat.le_refl _)))
       go_must (have By7 := Lib.hid (By6.out.below hk2 By6.out.lt))
       go_must (have Bj7 := Lib.hid (Bj6.out.below hk2 Bj6.out.lt))
       go_must (have hsw10 := hk2.size)
       obtain ⟨aB, cB, rfl⟩ := hk1.form
       obtain ⟨nB, hnB⟩ : ∃ z, (oB).length = z := ⟨_, rfl⟩
       rw [hnB] at hk1 ⊢
       go_must (have bB : nB ≤ 1024 := by rw [← hnB, ← HOB.out]; have := cR_len f tb vs (1); have := HSZ.out; simp only [sizeL] at this; omega)
       go_must (have HNB := Lib.hid hnB)
       go_must (have UB := Lib.hid hk1.block)
       go_must (have RB := Lib.hid hk1)
       clear hnB hk1
       clear hk2
       clear e0 x0 x1 x2 x3 le lx k0 k1 k2 y0 y1 y2 y3 ly yf0 yf1 yf2 yf3 j0 j1 j2 j3 lj jf0 jf1 jf2 jf3
       go_must (have e0 : (w10).cell? ⟨be, 0, none⟩ = some (.slice (some ⟨b, off, none⟩) nl lc) := CS7.out.eb.cell rfl)
       go_must (have x0 : (w10).cell? ⟨bx, 0, none⟩ = some (.int .i64 (30 : Int)) := CS7.out.xb.cell rfl)
       go_must (have x1 : (w10).cell? ⟨bx, 1, none⟩ = some (.string (txt s)) := CS7.out.xb.cell rfl)
       go_must (have x2 : (w10).cell? ⟨bx, 2, none⟩ = some (.int .i64 n) := CS7.out.xb.cell rfl)
       go_must (have x3 : (w10).cell? ⟨bx, 3, none⟩ = some (.slice (some ⟨kb, ko, none⟩) 3 kc) := CS7.out.xb.cell rfl)
       go_must (have le : be < (w10).heap.size := Nat.lt_of_lt_of_le CS7.out.le CS7.out.lB)
       go_must (have lx : bx < (w10).heap.size := Nat.lt_of_lt_of_le CS7.out.lx CS7.out.lB)
       go_must (have k0 : (w10).cell? ⟨kb, ko, none⟩ = some (.int .i64 (qta : Int)) := rkid_cell (j := 0) HKV.out Eta.out (HH.out.hw.trans (CS7.out.bel.mono HH.out.hw.size)))
       go_must (have k1 : (w10).cell? ⟨kb, ko + 1, none⟩ = some (.int .i64 (qtb : Int)) := rkid_cell (j := 1) HKV.out Etb.out (HH.out.hw.trans (CS7.out.bel.mono HH.out.hw.size)))
       go_must (have k2 : (w10).cell? ⟨kb, ko + 2, none⟩ = some (.int .i64 (qtc : Int)) := rkid_cell (j := 2) HKV.out Etc.out (HH.out.hw.trans (CS7.out.bel.mono HH.out.hw.size)))
       go_must (have y0 : (w10).cell? ⟨w7.heap.size, 0, none⟩ = some (.int .i64 33) := By7.out.cell rfl)
       go_must (have y1 : (w10).cell? ⟨w7.heap.size, 1, none⟩ = some (.int .i64 0) := By7.out.cell rfl)
       go_must (have y2 : (w10).cell? ⟨w7.heap.size, 2, none⟩ = some (.int .i64 0) := By7.out.cell rfl)
       go_must (have y3 : (w10).cell? ⟨w7.heap.size, 3, none⟩ = some (.string ⟨#[]⟩) := By7.out.cell rfl)
       go_must (have ly : w7.heap.size < (w10).heap.size := By7.out.lt)
       go_must (have yf0 : (w10).frozen? ⟨w7.heap.size, 0, none⟩ = false := By7.out.frozen 0)
       go_must (have yf1 : (w10).frozen? ⟨w7.heap.size, 1, none⟩ = false := By7.out.frozen 1)
       go_must (have yf2 : (w10).frozen? ⟨w7.heap.size, 2, none⟩ = false := By7.out.frozen 2)
       go_must (have yf3 : (w10).frozen? ⟨w7.heap.size, 3, none⟩ = false := By7.out.frozen 3)
       go_must (have j0 : (w10).cell? ⟨(w7.heap.size + 1), 0, none⟩ = some (.int .i64 34) := Bj7.out.cell rfl)
       go_must (have j1 : (w10).cell? ⟨(w7.heap.size + 1), 1, none⟩ = some (.int .i64 0) := Bj7.out.cell rfl)
       go_must (have j2 : (w10).cell? ⟨(w7.heap.size + 1), 2, none⟩ = some (.int .i64 0) := Bj7.out.cell rfl)
       go_must (have j3 : (w10).cell? ⟨(w7.heap.size + 1), 3, none⟩ = some (.string ⟨#[]⟩) := Bj7.out.cell rfl)
       go_must (have lj : (w7.heap.size + 1) < (w10).heap.size := Bj7.out.lt)
       go_must (have jf0 : (w10).frozen? ⟨(w7.heap.size + 1), 0, none⟩ = false := Bj7.out.frozen 0)
       go_must (have jf1 : (w10).frozen? ⟨(w7.heap.size + 1), 1, none⟩ = false := Bj7.out.frozen 1)
       go_must (have jf2 : (w10).frozen? ⟨(w7.heap.size + 1), 2, none⟩ = false := Bj7.out.frozen 2)
       go_must (have jf3 : (w10).frozen? ⟨(w7.heap.size + 1), 3, none⟩ = false := Bj7.out.frozen 3))
    | fail)
  go_still_tail 5, (by kernel_rfl)
  change wpList _ _ _ _ _ w10.drew
  have CS8 := Lib.hid (CS7.out.drew)
  have RA8 := Lib.hid (RA7.out.drew)
  have RB8 := Lib.hid (RB.out.drew)
  have By8 := Lib.hid (By7.out.drwC)
  have Bj8 := Lib.hid (Bj7.out.drwC)
  have hsW11 : w10.heap.size ≤ w10.drew.heap.size := Nat.le_refl _
  generalize w10.drew = W11 at *
  clear e0 x0 x1 x2 x3 le lx k0 k1 k2 y0 y1 y2 y3 ly yf0 yf1 yf2 yf3 j0 j1 j2 j3 lj jf0 jf1 jf2 jf3
  have e0 : (W11).cell? ⟨be, 0, none⟩ = some (.slice (some ⟨b, off, none⟩) nl lc) := CS8.out.eb.cell rfl
  have x0 : (W11).cell? ⟨bx, 0, none⟩ = some (.int .i64 (30 : Int)) := CS8.out.xb.cell rfl
  have x1 : (W11).cell? ⟨bx, 1, none⟩ = some (.string (txt s)) := CS8.out.xb.cell rfl
  have x2 : (W11).cell? ⟨bx, 2, none⟩ = some (.int .i64 n) := CS8.out.xb.cell rfl
  have x3 : (W11).cell? ⟨bx, 3, none⟩ = some (.slice (some ⟨kb, ko, none⟩) 3 kc) := CS8.out.xb.cell rfl
  have le : be < (W11).heap.size := Nat.lt_of_lt_of_le CS8.out.le CS8.out.lB
  have lx : bx < (W11).heap.size := Nat.lt_of_lt_of_le CS8.out.lx CS8.out.lB
  have k0 : (W11).cell? ⟨kb, ko, none⟩ = some (.int .i64 (qta : Int)) := rkid_cell (j := 0) HKV.out Eta.out (HH.out.hw.trans (CS8.out.bel.mono HH.out.hw.size))
  have k1 : (W11).cell? ⟨kb, ko + 1, none⟩ = some (.int .i64 (qtb : Int)) := rkid_cell (j := 1) HKV.out Etb.out (HH.out.hw.trans (CS8.out.bel.mono HH.out.hw.size))
  have k2 : (W11).cell? ⟨kb, ko + 2, none⟩ = some (.int .i64 (qtc : Int)) := rkid_cell (j := 2) HKV.out Etc.out (HH.out.hw.trans (CS8.out.bel.mono HH.out.hw.size))
  have y0 : (W11).cell? ⟨w7.heap.size, 0, none⟩ = some (.int .i64 33) := By8.out.cell rfl
  have y1 : (W11).cell? ⟨w7.heap.size, 1, none⟩ = some (.int .i64 0) := By8.out.cell rfl
  have y2 : (W11).cell? ⟨w7.heap.size, 2, none⟩ = some (.int .i64 0) := By8.out.cell rfl
  have y3 : (W11).cell? ⟨w7.heap.size, 3, none⟩ = some (.string ⟨#[]⟩) := By8.out.cell rfl
  have ly : w7.heap.size < (W11).heap.size := By8.out.lt
  have yf0 : (W11).frozen? ⟨w7.heap.size, 0, none⟩ = false := By8.out.frozen 0
  have yf1 : (W11).frozen? ⟨w7.heap.size, 1, none⟩ = false := By8.out.frozen 1
  have yf2 : (W11).frozen? ⟨w7.heap.size, 2, none⟩ = false := By8.out.frozen 2
  have yf3 : (W11).frozen? ⟨w7.heap.size, 3, none⟩ = false := By8.out.frozen 3
  have j0 : (W11).cell? ⟨(w7.heap.size + 1), 0, none⟩ = some (.int .i64 34) := Bj8.out.cell rfl
  have j1 : (W11).cell? ⟨(w7.heap.size + 1), 1, none⟩ = some (.int .i64 0) := Bj8.out.cell rfl
  have j2 : (W11).cell? ⟨(w7.heap.size + 1), 2, none⟩ = some (.int .i64 0) := Bj8.out.cell rfl
  have j3 : (W11).cell? ⟨(w7.heap.size + 1), 3, none⟩ = some (.string ⟨#[]⟩) := Bj8.out.cell rfl
  have lj : (w7.heap.size + 1) < (W11).heap.size := Bj8.out.lt
  have jf0 : (W11).frozen? ⟨(w7.heap.size + 1), 0, none⟩ = false := Bj8.out.frozen 0
  have jf1 : (W11).frozen? ⟨(w7.heap.size + 1), 1, none⟩ = false := Bj8.out.frozen 1
  have jf2 : (W11).frozen? ⟨(w7.heap.size + 1), 2, none⟩ = false := Bj8.out.frozen 2
  have jf3 : (W11).frozen? ⟨(w7.heap.size + 1), 3, none⟩ = false := Bj8.out.frozen 3
  have tokC : True := trivial
  go_upto_region 33 with (first
    | (have _t := tokC; go_at_call 30; go_must (refine (ih tc qtc vs (1) _ (RPre.kid (j := 2) HH.out rfl Stc.out Vtc.out (by simp) (by omega) (by omega) CS8.out.bel)).mono ?_); clear tokC _t
       rintro e w12 ⟨ov, rfl, hk1, hk2⟩
       go_must (have CS9 := Lib.hid (CS8.out.call hk2))
       rw [HOC.out] at hk1
       go_must (have RA9 := Lib.hid (RA8.out.below hk2 (Nat.le_refl _)))
       go_must (have RB9 := Lib.hid (RB8.out.below hk2 (Nat.le_refl _)))
       go_must (have By9 := Lib.hid (By8.out.below hk2 By8.out.lt))
       go_must (have Bj9 := Lib.hid (Bj8.out.below hk2 Bj8.out.lt))
       go_must (have hsw12 := hk2.size)
       obtain ⟨aC, cC, rfl⟩ := hk1.form
       obtain ⟨nC, hnC⟩ : ∃ z, (oC).length = z := ⟨_, rfl⟩
       rw [hnC] at hk1 ⊢
       go_must (have bC : nC ≤ 1024 := by rw [← hnC, ← HOC.out]; have := cR_len f tc vs (1); have := HSZ.out; simp only [sizeL] at this; omega)
       go_must (have HNC := Lib.hid hnC)
       go_must (have UC := Lib.hid hk1.block)
       go_must (have RC := Lib.hid hk1)
       clear hnC hk1
       clear hk2
       clear e0 x0 x1 x2 x3 le lx k0 k1 k2 y0 y1 y2 y3 ly yf0 yf1 yf2 yf3 j0 j1 j2 j3 lj jf0 jf1 jf2 jf3
       go_must (have e0 : (w12).cell? ⟨be, 0, none⟩ = some (.slice (some ⟨b, off, none⟩) nl lc) := CS9.out.eb.cell rfl)
       go_must (have x0 : (w12).cell? ⟨bx, 0, none⟩ = some (.int .i64 (30 : Int)) := CS9.out.xb.cell rfl)
       go_must (have x1 : (w12).cell? ⟨bx, 1, none⟩ = some (.string (txt s)) := CS9.out.xb.cell rfl)
       go_must (have x2 : (w12).cell? ⟨bx, 2, none⟩ = some (.int .i64 n) := CS9.out.xb.cell rfl)
       go_must (have x3 : (w12).cell? ⟨bx, 3, none⟩ = some (.slice (some ⟨kb, ko, none⟩) 3 kc) := CS9.out.xb.cell rfl)
       go_must (have le : be < (w12).heap.size := Nat.lt_of_lt_of_le CS9.out.le CS9.out.lB)
       go_must (have lx : bx < (w12).heap.size := Nat.lt_of_lt_of_le CS9.out.lx CS9.out.lB)
       go_must (have k0 : (w12).cell? ⟨kb, ko, none⟩ = some (.int .i64 (qta : Int)) := rkid_cell (j := 0) HKV.out Eta.out (HH.out.hw.trans (CS9.out.bel.mono HH.out.hw.size)))
       go_must (have k1 : (w12).cell? ⟨kb, ko + 1, none⟩ = some (.int .i64 (qtb : Int)) := rkid_cell (j := 1) HKV.out Etb.out (HH.out.hw.trans (CS9.out.bel.mono HH.out.hw.size)))
       go_must (have k2 : (w12).cell? ⟨kb, ko + 2, none⟩ = some (.int .i64 (qtc : Int)) := rkid_cell (j := 2) HKV.out Etc.out (HH.out.hw.trans (CS9.out.bel.mono HH.out.hw.size)))
       go_must (have y0 : (w12).cell? ⟨w7.heap.size, 0, none⟩ = some (.int .i64 33) := By9.out.cell rfl)
       go_must (have y1 : (w12).cell? ⟨w7.heap.size, 1, none⟩ = some (.int .i64 0) := By9.out.cell rfl)
       go_must (have y2 : (w12).cell? ⟨w7.heap.size, 2, none⟩ = some (.int .i64 0) := By9.out.cell rfl)
       go_must (have y3 : (w12).cell? ⟨w7.heap.size, 3, none⟩ = some (.string ⟨#[]⟩) := By9.out.cell rfl)
       go_must (have ly : w7.heap.size < (w12).heap.size := By9.out.lt)
       go_must (have yf0 : (w12).frozen? ⟨w7.heap.size, 0, none⟩ = false := By9.out.frozen 0)
       go_must (have yf1 : (w12).frozen? ⟨w7.heap.size, 1, none⟩ = false := By9.out.frozen 1)
       go_must (have yf2 : (w12).frozen? ⟨w7.heap.size, 2, none⟩ = false := By9.out.frozen 2)
       go_must (have yf3 : (w12).frozen? ⟨w7.heap.size, 3, none⟩ = false := By9.out.frozen 3)
       go_must (have j0 : (w12).cell? ⟨(w7.heap.size + 1), 0, none⟩ = some (.int .i64 34) := Bj9.out.cell rfl)
       go_must (have j1 : (w12).cell? ⟨(w7.heap.size + 1), 1, none⟩ = some (.int .i64 0) := Bj9.out.cell rfl)
       go_must (have j2 : (w12).cell? ⟨(w7.heap.size + 1), 2, none⟩ = some (.int .i64 0) := Bj9.out.cell rfl)
       go_must (have j3 : (w12).cell? ⟨(w7.heap.size + 1), 3, none⟩ = some (.string ⟨#[]⟩) := Bj9.out.cell rfl)
       go_must (have lj : (w7.heap.size + 1) < (w12).heap.size := Bj9.out.lt)
       go_must (have jf0 : (w12).frozen? ⟨(w7.heap.size + 1), 0, none⟩ = false := Bj9.out.frozen 0)
       go_must (have jf1 : (w12).frozen? ⟨(w7.heap.size + 1), 1, none⟩ = false := Bj9.out.frozen 1)
       go_must (have jf2 : (w12).frozen? ⟨(w7.heap.size + 1), 2, none⟩ = false := Bj9.out.frozen 2)
       go_must (have jf3 : (w12).frozen? ⟨(w7.heap.size + 1), 3, none⟩ = false := Bj9.out.frozen 3))
    | fail)
  go_upto_region 34 with fail
  generalize hW13 : World.setCell _ _ _ = W13
  have CS10 : Hid (CSt W W13 (.slice (some ⟨b, off, none⟩) nl lc) be bx #[.int .i64 (30 : Int), .string (txt s), .int .i64 n, .slice (some ⟨kb, ko, none⟩) 3 kc] bs) := Lib.hid (by rw [← hW13]; exact (CS9.out.set_ (g := w7.heap.size) (by omega) _ _))
  have RA10 : Hid (Own1 W13 W4.heap.size 46 4 Ins.Is (.slice aA nA cA) oA) := Lib.hid (by rw [← hW13]; exact (RA9.out.setOther (p := ⟨w7.heap.size, 1, none⟩) (fun e => by have := UA.out (w7.heap.size) e; omega) _))
  have RB10 : Hid (Own1 W13 W9.heap.size 46 4 Ins.Is (.slice aB nB cB) oB) := Lib.hid (by rw [← hW13]; exact (RB9.out.setOther (p := ⟨w7.heap.size, 1, none⟩) (fun e => by have := UB.out (w7.heap.size) e; omega) _))
  have RC10 : Hid (Own1 W13 W11.heap.size 46 4 Ins.Is (.slice aC nC cC) oC) := Lib.hid (by rw [← hW13]; exact (RC.out.setOther (p := ⟨w7.heap.size, 1, none⟩) (fun e => by have := UC.out (w7.heap.size) e; omega) _))
  have Bj10 : Hid (Blk W13 (w7.heap.size + 1) 46 #[.int .i64 34, .int .i64 0, .int .i64 0, .string ⟨#[]⟩]) := Lib.hid (by rw [← hW13]; exact (Bj9.out.far (p := ⟨w7.heap.size, 1, none⟩) (by show _ ≠ w7.heap.size; omega) _))
  have By10 : Hid (Blk W13 w7.heap.size 46 #[.int .i64 33, .int .i64 ((nA : Int) + 1 + (nB : Int) + 1), .int .i64 0, .string ⟨#[]⟩]) := Lib.hid (by rw [← hW13]; have := (By9.out.set_ 1 (.int .i64 ((nA : Int) + 1 + (nB : Int) + 1))); simpa using this)
  have hsW13 : w12.heap.size ≤ W13.heap.size := by rw [← hW13]; simp
  clear hW13
  clear e0 x0 x1 x2 x3 le lx k0 k1 k2 y0 y1 y2 y3 ly yf0 yf1 yf2 yf3 j0 j1 j2 j3 lj jf0 jf1 jf2 jf3
  have e0 : (W13).cell? ⟨be, 0, none⟩ = some (.slice (some ⟨b, off, none⟩) nl lc) := CS10.out.eb.cell rfl
  have x0 : (W13).cell? ⟨bx, 0, none⟩ = some (.int .i64 (30 : Int)) := CS10.out.xb.cell rfl
  have x1 : (W13).cell? ⟨bx, 1, none⟩ = some (.string (txt s)) := CS10.out.xb.cell rfl
  have x2 : (W13).cell? ⟨bx, 2, none⟩ = some (.int .i64 n) := CS10.out.xb.cell rfl
  have x3 : (W13).cell? ⟨bx, 3, none⟩ = some (.slice (some ⟨kb, ko, none⟩) 3 kc) := CS10.out.xb.cell rfl
  have le : be < (W13).heap.size := Nat.lt_of_lt_of_le CS10.out.le CS10.out.lB
  have lx : bx < (W13).heap.size := Nat.lt_of_lt_of_le CS10.out.lx CS10.out.lB
  have k0 : (W13).cell? ⟨kb, ko, none⟩ = some (.int .i64 (qta : Int)) := rkid_cell (j := 0) HKV.out Eta.out (HH.out.hw.trans (CS10.out.bel.mono HH.out.hw.size))
  have k1 : (W13).cell? ⟨kb, ko + 1, none⟩ = some (.int .i64 (qtb : Int)) := rkid_cell (j := 1) HKV.out Etb.out (HH.out.hw.trans (CS10.out.bel.mono HH.out.hw.size))
  have k2 : (W13).cell? ⟨kb, ko + 2, none⟩ = some (.int .i64 (qtc : Int)) := rkid_cell (j := 2) HKV.out Etc.out (HH.out.hw.trans (CS10.out.bel.mono HH.out.hw.size))
  have y0 : (W13).cell? ⟨w7.heap.size, 0, none⟩ = some (.int .i64 33) := By10.out.cell rfl
  have y1 : (W13).cell? ⟨w7.heap.size, 1, none⟩ = some (.int .i64 ((nA : Int) + 1 + (nB : Int) + 1)) := By10.out.cell rfl
  have y2 : (W13).cell? ⟨w7.heap.size, 2, none⟩ = some (.int .i64 0) := By10.out.cell rfl
  have y3 : (W13).cell? ⟨w7.heap.size, 3, none⟩ = some (.string ⟨#[]⟩) := By10.out.cell rfl
  have ly : w7.heap.size < (W13).heap.size := By10.out.lt
  have yf0 : (W13).frozen? ⟨w7.heap.size, 0, none⟩ = false := By10.out.frozen 0
  have yf1 : (W13).frozen? ⟨w7.heap.size, 1, none⟩ = false := By10.out.frozen 1
  have yf2 : (W13).frozen? ⟨w7.heap.size, 2, none⟩ = false := By10.out.frozen 2
  have yf3 : (W13).frozen? ⟨w7.heap.size, 3, none⟩ = false := By10.out.frozen 3
  have j0 : (W13).cell? ⟨(w7.heap.size + 1), 0, none⟩ = some (.int .i64 34) := Bj10.out.cell rfl
  have j1 : (W13).cell? ⟨(w7.heap.size + 1), 1, none⟩ = some (.int .i64 0) := Bj10.out.cell rfl
  have j2 : (W13).cell? ⟨(w7.heap.size + 1), 2, none⟩ = some (.int .i64 0) := Bj10.out.cell rfl
  have j3 : (W13).cell? ⟨(w7.heap.size + 1), 3, none⟩ = some (.string ⟨#[]⟩) := Bj10.out.cell rfl
  have lj : (w7.heap.size + 1) < (W13).heap.size := Bj10.out.lt
  have jf0 : (W13).frozen? ⟨(w7.heap.size + 1), 0, none⟩ = false := Bj10.out.frozen 0
  have jf1 : (W13).frozen? ⟨(w7.heap.size + 1), 1, none⟩ = false := Bj10.out.frozen 1
  have jf2 : (W13).frozen? ⟨(w7.heap.size + 1), 2, none⟩ = false := Bj10.out.frozen 2
  have jf3 : (W13).frozen? ⟨(w7.heap.size + 1), 3, none⟩ = false := Bj10.out.frozen 3
  go_upto_region 35 with fail
  generalize hW14 : World.setCell _ _ _ = W14
  have CS11 : Hid (CSt W W14 (.slice (some ⟨b, off, none⟩) nl lc) be bx #[.int .i64 (30 : Int), .string (txt s), .int .i64 n, .slice (some ⟨kb, ko, none⟩) 3 kc] bs) := Lib.hid (by rw [← hW14]; exact (CS10.out.set_ (g := (w7.heap.size + 1)) (by omega) _ _))
  have RA11 : Hid (Own1 W14 W4.heap.size 46 4 Ins.Is (.slice aA nA cA) oA) := Lib.hid (by rw [← hW14]; exact (RA10.out.setOther (p := ⟨(w7.heap.size + 1), 1, none⟩) (fun e => by have := UA.out ((w7.heap.size + 1)) e; omega) _))
  have RB11 : Hid (Own1 W14 W9.heap.size 46 4 Ins.Is (.slice aB nB cB) oB) := Lib.hid (by rw [← hW14]; exact (RB10.out.setOther (p := ⟨(w7.heap.size + 1), 1, none⟩) (fun e => by have := UB.out ((w7.heap.size + 1)) e; omega) _))
  have RC11 : Hid (Own1 W14 W11.heap.size 46 4 Ins.Is (.slice aC nC cC) oC) := Lib.hid (by rw [← hW14]; exact (RC10.out.setOther (p := ⟨(w7.heap.size + 1), 1, none⟩) (fun e => by have := UC.out ((w7.heap.size + 1)) e; omega) _))
  have By11 : Hid (Blk W14 w7.heap.size 46 #[.int .i64 33, .int .i64 ((nA : Int) + 1 + (nB : Int) + 1), .int .i64 0, .string ⟨#[]⟩]) := Lib.hid (by rw [← hW14]; exact (By10.out.far (p := ⟨(w7.heap.size + 1), 1, none⟩) (by show _ ≠ (w7.heap.size + 1); omega) _))
  have Bj11 : Hid (Blk W14 (w7.heap.size + 1) 46 #[.int .i64 34, .int .i64 ((nA : Int) + 1 + (nB : Int) + 1 + (nC : Int)), .int .i64 0, .string ⟨#[]⟩]) := Lib.hid (by rw [← hW14]; have := (Bj10.out.set_ 1 (.int .i64 ((nA : Int) + 1 + (nB : Int) + 1 + (nC : Int)))); simpa using this)
  have hsW14 : W13.heap.size ≤ W14.heap.size := by rw [← hW14]; simp
  clear hW14
  clear e0 x0 x1 x2 x3 le lx k0 k1 k2 y0 y1 y2 y3 ly yf0 yf1 yf2 yf3 j0 j1 j2 j3 lj jf0 jf1 jf2 jf3
  have e0 : (W14).cell? ⟨be, 0, none⟩ = some (.slice (some ⟨b, off, none⟩) nl lc) := CS11.out.eb.cell rfl
  have x0 : (W14).cell? ⟨bx, 0, none⟩ = some (.int .i64 (30 : Int)) := CS11.out.xb.cell rfl
  have x1 : (W14).cell? ⟨bx, 1, none⟩ = some (.string (txt s)) := CS11.out.xb.cell rfl
  have x2 : (W14).cell? ⟨bx, 2, none⟩ = some (.int .i64 n) := CS11.out.xb.cell rfl
  have x3 : (W14).cell? ⟨bx, 3, none⟩ = some (.slice (some ⟨kb, ko, none⟩) 3 kc) := CS11.out.xb.cell rfl
  have le : be < (W14).heap.size := Nat.lt_of_lt_of_le CS11.out.le CS11.out.lB
  have lx : bx < (W14).heap.size := Nat.lt_of_lt_of_le CS11.out.lx CS11.out.lB
  have k0 : (W14).cell? ⟨kb, ko, none⟩ = some (.int .i64 (qta : Int)) := rkid_cell (j := 0) HKV.out Eta.out (HH.out.hw.trans (CS11.out.bel.mono HH.out.hw.size))
  have k1 : (W14).cell? ⟨kb, ko + 1, none⟩ = some (.int .i64 (qtb : Int)) := rkid_cell (j := 1) HKV.out Etb.out (HH.out.hw.trans (CS11.out.bel.mono HH.out.hw.size))
  have k2 : (W14).cell? ⟨kb, ko + 2, none⟩ = some (.int .i64 (qtc : Int)) := rkid_cell (j := 2) HKV.out Etc.out (HH.out.hw.trans (CS11.out.bel.mono HH.out.hw.size))
  have y0 : (W14).cell? ⟨w7.heap.size, 0, none⟩ = some (.int .i64 33) := By11.out.cell rfl
  have y1 : (W14).cell? ⟨w7.heap.size, 1, none⟩ = some (.int .i64 ((nA : Int) + 1 + (nB : Int) + 1)) := By11.out.cell rfl
  have y2 : (W14).cell? ⟨w7.heap.size, 2, none⟩ = some (.int .i64 0) := By11.out.cell rfl
  have y3 : (W14).cell? ⟨w7.heap.size, 3, none⟩ = some (.string ⟨#[]⟩) := By11.out.cell rfl
  have ly : w7.heap.size < (W14).heap.size := By11.out.lt
  have yf0 : (W14).frozen? ⟨w7.heap.size, 0, none⟩ = false := By11.out.frozen 0
  have yf1 : (W14).frozen? ⟨w7.heap.size, 1, none⟩ = false := By11.out.frozen 1
  have yf2 : (W14).frozen? ⟨w7.heap.size, 2, none⟩ = false := By11.out.frozen 2
  have yf3 : (W14).frozen? ⟨w7.heap.size, 3, none⟩ = false := By11.out.frozen 3
  have j0 : (W14).cell? ⟨(w7.heap.size + 1), 0, none⟩ = some (.int .i64 34) := Bj11.out.cell rfl
  have j1 : (W14).cell? ⟨(w7.heap.size + 1), 1, none⟩ = some (.int .i64 ((nA : Int) + 1 + (nB : Int) + 1 + (nC : Int))) := Bj11.out.cell rfl
  have j2 : (W14).cell? ⟨(w7.heap.size + 1), 2, none⟩ = some (.int .i64 0) := Bj11.out.cell rfl
  have j3 : (W14).cell? ⟨(w7.heap.size + 1), 3, none⟩ = some (.string ⟨#[]⟩) := Bj11.out.cell rfl
  have lj : (w7.heap.size + 1) < (W14).heap.size := Bj11.out.lt
  have jf0 : (W14).frozen? ⟨(w7.heap.size + 1), 0, none⟩ = false := Bj11.out.frozen 0
  have jf1 : (W14).frozen? ⟨(w7.heap.size + 1), 1, none⟩ = false := Bj11.out.frozen 1
  have jf2 : (W14).frozen? ⟨(w7.heap.size + 1), 2, none⟩ = false := Bj11.out.frozen 2
  have jf3 : (W14).frozen? ⟨(w7.heap.size + 1), 3, none⟩ = false := Bj11.out.frozen 3
  have tokP : True := trivial
  have tokT : True := trivial
  go_upto_region 36 with (first
    | (have _t := tokP
       at_builtin
       go_must (refine wpList_append_list rfl (.tmp 147) (.tmp 149) _ (by rfl) W4.heap.size (W14.heap.size + 1) 46 jI _ 4 40 Tryd.underlying22 I.out.1 I.out.2.1 I.out.2.2.1 I.out.2.2.2 rfl (by omega) (R := Ins.Is) (l := oA) (m := [(insI 33 ((nA : Int) + 1 + (nB : Int) + 1))]) (.slice aA nA cA) (by rfl) (by exact (RA11.out.alloc (.cells #[.int .i64 33, .int .i64 ((nA : Int) + 1 + (nB : Int) + 1), .int .i64 0, .string ⟨#[]⟩] 46))) (some ⟨W14.heap.size, 0, none⟩) 1 1 (by rfl) (SlR.new1 (w := W14) (e := 46) (g := W14.heap.size) rfl (x := [.int .i64 33, .int .i64 ((nA : Int) + 1 + (nB : Int) + 1), .int .i64 0, .string ⟨#[]⟩]) rfl (R := Ins.Is) (y := (insI 33 ((nA : Int) + 1 + (nB : Int) + 1))) ⟨rfl, ins_ok (by omega) (by omega) (by omega) (by omega) (by omega) (by omega) nil_size⟩) (nA + 1) (by rw [HNA.out]) Ins.Is.one (by have := HNA.out; unfold maxLen; simp <;> omega) (by have := HNA.out; simp <;> omega) (by simp <;> omega) ?_)
       clear tokP _t
       intro aA' cA' w15 hown hgr
       go_must (have CS12 := Lib.hid ((CS11.out.alloc (.cells #[.int .i64 33, .int .i64 ((nA : Int) + 1 + (nB : Int) + 1), .int .i64 0, .string ⟨#[]⟩] 46)).grown ((RA11.out.alloc (.cells #[.int .i64 33, .int .i64 ((nA : Int) + 1 + (nB : Int) + 1), .int .i64 0, .string ⟨#[]⟩] 46)).mono (by have := CS11.out.lB; omega)) hgr))
       go_must (have RB12 := Lib.hid ((RB11.out.alloc (.cells #[.int .i64 33, .int .i64 ((nA : Int) + 1 + (nB : Int) + 1), .int .i64 0, .string ⟨#[]⟩] 46)).keepG (RA11.out.alloc (.cells #[.int .i64 33, .int .i64 ((nA : Int) + 1 + (nB : Int) + 1), .int .i64 0, .string ⟨#[]⟩] 46)) hgr (.inr (fun g e => by have := (UA.out g e).2; omega))))
       go_must (have RC12 := Lib.hid ((RC11.out.alloc (.cells #[.int .i64 33, .int .i64 ((nA : Int) + 1 + (nB : Int) + 1), .int .i64 0, .string ⟨#[]⟩] 46)).keepG (RA11.out.alloc (.cells #[.int .i64 33, .int .i64 ((nA : Int) + 1 + (nB : Int) + 1), .int .i64 0, .string ⟨#[]⟩] 46)) hgr (.inr (fun g e => by have := (UA.out g e).2; omega))))
       go_must (have Bj12 := Lib.hid ((Bj11.out.alloc (.cells #[.int .i64 33, .int .i64 ((nA : Int) + 1 + (nB : Int) + 1), .int .i64 0, .string ⟨#[]⟩] 46)).grown hgr (fun e => by have := UA.out ((w7.heap.size + 1)) e.symm; omega)))
       go_must (have RA12 := Lib.hid hown)
       go_must (have hsw15 : W14.heap.size < w15.heap.size := by have := hgr.size; simp at this; omega)
       clear hown hgr
       clear e0 x0 x1 x2 x3 le lx k0 k1 k2 y0 y1 y2 y3 ly yf0 yf1 yf2 yf3 j0 j1 j2 j3 lj jf0 jf1 jf2 jf3
       go_must (have e0 : (w15).cell? ⟨be, 0, none⟩ = some (.slice (some ⟨b, off, none⟩) nl lc) := CS12.out.eb.cell rfl)
       go_must (have x0 : (w15).cell? ⟨bx, 0, none⟩ = some (.int .i64 (30 : Int)) := CS12.out.xb.cell rfl)
       go_must (have x1 : (w15).cell? ⟨bx, 1, none⟩ = some (.string (txt s)) := CS12.out.xb.cell rfl)
       go_must (have x2 : (w15).cell? ⟨bx, 2, none⟩ = some (.int .i64 n) := CS12.out.xb.cell rfl)
       go_must (have x3 : (w15).cell? ⟨bx, 3, none⟩ = some (.slice (some ⟨kb, ko, none⟩) 3 kc) := CS12.out.xb.cell rfl)
       go_must (have le : be < (w15).heap.size := Nat.lt_of_lt_of_le CS12.out.le CS12.out.lB)
       go_must (have lx : bx < (w15).heap.size := Nat.lt_of_lt_of_le CS12.out.lx CS12.out.lB)
       go_must (have k0 : (w15).cell? ⟨kb, ko, none⟩ = some (.int .i64 (qta : Int)) := rkid_cell (j := 0) HKV.out Eta.out (HH.out.hw.trans (CS12.out.bel.mono HH.out.hw.size)))
       go_must (have k1 : (w15).cell? ⟨kb, ko + 1, none⟩ = some (.int .i64 (qtb : Int)) := rkid_cell (j := 1) HKV.out Etb.out (HH.out.hw.trans (CS12.out.bel.mono HH.out.hw.size)))
       go_must (have k2 : (w15).cell? ⟨kb, ko + 2, none⟩ = some (.int .i64 (qtc : Int)) := rkid_cell (j := 2) HKV.out Etc.out (HH.out.hw.trans (CS12.out.bel.mono HH.out.hw.size)))
       go_must (have j0 : (w15).cell? ⟨(w7.heap.size + 1), 0, none⟩ = some (.int .i64 34) := Bj12.out.cell rfl)
       go_must (have j1 : (w15).cell? ⟨(w7.heap.size + 1), 1, none⟩ = some (.int .i64 ((nA : Int) + 1 + (nB : Int) + 1 + (nC : Int))) := Bj12.out.cell rfl)
       go_must (have j2 : (w15).cell? ⟨(w7.heap.size + 1), 2, none⟩ = some (.int .i64 0) := Bj12.out.cell rfl)
       go_must (have j3 : (w15).cell? ⟨(w7.heap.size + 1), 3, none⟩ = some (.string ⟨#[]⟩) := Bj12.out.cell rfl)
       go_must (have lj : (w7.heap.size + 1) < (w15).heap.size := Bj12.out.lt)
       go_must (have jf0 : (w15).frozen? ⟨(w7.heap.size + 1), 0, none⟩ = false := Bj12.out.frozen 0)
       go_must (have jf1 : (w15).frozen? ⟨(w7.heap.size + 1), 1, none⟩ = false := Bj12.out.frozen 1)
       go_must (have jf2 : (w15).frozen? ⟨(w7.heap.size + 1), 2, none⟩ = false := Bj12.out.frozen 2)
       go_must (have jf3 : (w15).frozen? ⟨(w7.heap.size + 1), 3, none⟩ = false := Bj12.out.frozen 3))
    | (have _t := tokT; go_at_call 58; go_must (refine (rthen_any w15 (RA12.out.read (by decide)) (RB12.out.read (by decide)) OPSB.out (by have := HNA.out; simp <;> omega) (by have := HNB.out; omega)).mono ?_); clear tokT _t
       rintro e w16 ⟨ov, rfl, hk1, hk2⟩
       go_must (have CS13 := Lib.hid (CS12.out.call hk2))
       go_must (have RC13 := Lib.hid (RC12.out.below hk2 (Nat.le_refl _)))
       go_must (have Bj13 := Lib.hid (Bj12.out.below hk2 Bj12.out.lt))
       go_must (have hsw16 := hk2.size)
       obtain ⟨aT, cT, rfl⟩ := hk1.form
       obtain ⟨nT, hnT⟩ : ∃ z, ((thenN (oA ++ [(insI 33 ((nA : Int) + 1 + (nB : Int) + 1))]) oB)).length = z := ⟨_, rfl⟩
       rw [hnT] at hk1 ⊢
       go_must (have bT : nT ≤ 2100 := by rw [← hnT, thenN_len]; have := HNA.out; have := HNB.out; simp <;> omega)
       go_must (have HNT := Lib.hid hnT)
       go_must (have UT := Lib.hid hk1.block)
       go_must (have RT := Lib.hid hk1)
       clear hnT hk1
       clear hk2
       clear e0 x0 x1 x2 x3 le lx k0 k1 k2 j0 j1 j2 j3 lj jf0 jf1 jf2 jf3
       go_must (have e0 : (w16).cell? ⟨be, 0, none⟩ = some (.slice (some ⟨b, off, none⟩) nl lc) := CS13.out.eb.cell rfl)
       go_must (have x0 : (w16).cell? ⟨bx, 0, none⟩ = some (.int .i64 (30 : Int)) := CS13.out.xb.cell rfl)
       go_must (have x1 : (w16).cell? ⟨bx, 1, none⟩ = some (.string (txt s)) := CS13.out.xb.cell rfl)
       go_must (have x2 : (w16).cell? ⟨bx, 2, none⟩ = some (.int .i64 n) := CS13.out.xb.cell rfl)
       go_must (have x3 : (w16).cell? ⟨bx, 3, none⟩ = some (.slice (some ⟨kb, ko, none⟩) 3 kc) := CS13.out.xb.cell rfl)
       go_must (have le : be < (w16).heap.size := Nat.lt_of_lt_of_le CS13.out.le CS13.out.lB)
       go_must (have lx : bx < (w16).heap.size := Nat.lt_of_lt_of_le CS13.out.lx CS13.out.lB)
       go_must (have k0 : (w16).cell? ⟨kb, ko, none⟩ = some (.int .i64 (qta : Int)) := rkid_cell (j := 0) HKV.out Eta.out (HH.out.hw.trans (CS13.out.bel.mono HH.out.hw.size)))
       go_must (have k1 : (w16).cell? ⟨kb, ko + 1, none⟩ = some (.int .i64 (qtb : Int)) := rkid_cell (j := 1) HKV.out Etb.out (HH.out.hw.trans (CS13.out.bel.mono HH.out.hw.size)))
       go_must (have k2 : (w16).cell? ⟨kb, ko + 2, none⟩ = some (.int .i64 (qtc : Int)) := rkid_cell (j := 2) HKV.out Etc.out (HH.out.hw.trans (CS13.out.bel.mono HH.out.hw.size)))
       go_must (have j0 : (w16).cell? ⟨(w7.heap.size + 1), 0, none⟩ = some (.int .i64 34) := Bj13.out.cell rfl)
       go_must (have j1 : (w16).cell? ⟨(w7.heap.size + 1), 1, none⟩ = some (.int .i64 ((nA : Int) + 1 + (nB : Int) + 1 + (nC : Int))) := Bj13.out.cell rfl)
       go_must (have j2 : (w16).cell? ⟨(w7.heap.size + 1), 2, none⟩ = some (.int .i64 0) := Bj13.out.cell rfl)
       go_must (have j3 : (w16).cell? ⟨(w7.heap.size + 1), 3, none⟩ = some (.string ⟨#[]⟩) := Bj13.out.cell rfl)
       go_must (have lj : (w7.heap.size + 1) < (w16).heap.size := Bj13.out.lt)
       go_must (have jf0 : (w16).frozen? ⟨(w7.heap.size + 1), 0, none⟩ = false := Bj13.out.frozen 0)
       go_must (have jf1 : (w16).frozen? ⟨(w7.heap.size + 1), 1, none⟩ = false := Bj13.out.frozen 1)
       go_must (have jf2 : (w16).frozen? ⟨(w7.heap.size + 1), 2, none⟩ = false := Bj13.out.frozen 2)
       go_must (have jf3 : (w16).frozen? ⟨(w7.heap.size + 1), 3, none⟩ = false := Bj13.out.frozen 3))
    | fail)
  have tokQ : True := trivial
  have tokZ : True := trivial
  go_wp2_with (first
    | (have _t := tokQ
       at_builtin
       go_must (refine wpList_append_list rfl (.tmp 153) (.tmp 155) _ (by rfl) w15.heap.size (w16.heap.size + 1) 46 jI _ 4 40 Tryd.underlying22 I.out.1 I.out.2.1 I.out.2.2.1 I.out.2.2.2 rfl (by omega) (R := Ins.Is) (l := (thenN (oA ++ [(insI 33 ((nA : Int) + 1 + (nB : Int) + 1))]) oB)) (m := [(insI 34 ((nA : Int) + 1 + (nB : Int) + 1 + (nC : Int)))]) (.slice aT nT cT) (by rfl) (by exact (RT.out.alloc (.cells #[.int .i64 34, .int .i64 ((nA : Int) + 1 + (nB : Int) + 1 + (nC : Int)), .int .i64 0, .string ⟨#[]⟩] 46))) (some ⟨w16.heap.size, 0, none⟩) 1 1 (by rfl) (SlR.new1 (w := w16) (e := 46) (g := w16.heap.size) rfl (x := [.int .i64 34, .int .i64 ((nA : Int) + 1 + (nB : Int) + 1 + (nC : Int)), .int .i64 0, .string ⟨#[]⟩]) rfl (R := Ins.Is) (y := (insI 34 ((nA : Int) + 1 + (nB : Int) + 1 + (nC : Int)))) ⟨rfl, ins_ok (by omega) (by omega) (by omega) (by omega) (by omega) (by omega) nil_size⟩) (nT + 1) (by rw [HNT.out]) Ins.Is.one (by have := HNT.out; unfold maxLen; simp <;> omega) (by have := HNT.out; simp <;> omega) (by simp <;> omega) ?_)
       clear tokQ _t
       intro aT' cT' w17 hown hgr
       go_must (have CS14 := Lib.hid ((CS13.out.alloc (.cells #[.int .i64 34, .int .i64 ((nA : Int) + 1 + (nB : Int) + 1 + (nC : Int)), .int .i64 0, .string ⟨#[]⟩] 46)).grown ((RT.out.alloc (.cells #[.int .i64 34, .int .i64 ((nA : Int) + 1 + (nB : Int) + 1 + (nC : Int)), .int .i64 0, .string ⟨#[]⟩] 46)).mono (by have := CS13.out.lB; omega)) hgr))
       go_must (have RC14 := Lib.hid ((RC13.out.alloc (.cells #[.int .i64 34, .int .i64 ((nA : Int) + 1 + (nB : Int) + 1 + (nC : Int)), .int .i64 0, .string ⟨#[]⟩] 46)).keepG (RT.out.alloc (.cells #[.int .i64 34, .int .i64 ((nA : Int) + 1 + (nB : Int) + 1 + (nC : Int)), .int .i64 0, .string ⟨#[]⟩] 46)) hgr (.inl (fun g e => by have := (UC.out g e).2; omega))))
       go_must (have RT14 := Lib.hid hown)
       go_must (have hsw17 : w16.heap.size < w17.heap.size := by have := hgr.size; simp at this; omega)
       clear hown hgr
       clear e0 x0 x1 x2 x3 le lx k0 k1 k2 j0 j1 j2 j3 lj jf0 jf1 jf2 jf3
       go_must (have e0 : (w17).cell? ⟨be, 0, none⟩ = some (.slice (some ⟨b, off, none⟩) nl lc) := CS14.out.eb.cell rfl)
       go_must (have x0 : (w17).cell? ⟨bx, 0, none⟩ = some (.int .i64 (30 : Int)) := CS14.out.xb.cell rfl)
       go_must (have x1 : (w17).cell? ⟨bx, 1, none⟩ = some (.string (txt s)) := CS14.out.xb.cell rfl)
       go_must (have x2 : (w17).cell? ⟨bx, 2, none⟩ = some (.int .i64 n) := CS14.out.xb.cell rfl)
       go_must (have x3 : (w17).cell? ⟨bx, 3, none⟩ = some (.slice (some ⟨kb, ko, none⟩) 3 kc) := CS14.out.xb.cell rfl)
       go_must (have le : be < (w17).heap.size := Nat.lt_of_lt_of_le CS14.out.le CS14.out.lB)
       go_must (have lx : bx < (w17).heap.size := Nat.lt_of_lt_of_le CS14.out.lx CS14.out.lB)
       go_must (have k0 : (w17).cell? ⟨kb, ko, none⟩ = some (.int .i64 (qta : Int)) := rkid_cell (j := 0) HKV.out Eta.out (HH.out.hw.trans (CS14.out.bel.mono HH.out.hw.size)))
       go_must (have k1 : (w17).cell? ⟨kb, ko + 1, none⟩ = some (.int .i64 (qtb : Int)) := rkid_cell (j := 1) HKV.out Etb.out (HH.out.hw.trans (CS14.out.bel.mono HH.out.hw.size)))
       go_must (have k2 : (w17).cell? ⟨kb, ko + 2, none⟩ = some (.int .i64 (qtc : Int)) := rkid_cell (j := 2) HKV.out Etc.out (HH.out.hw.trans (CS14.out.bel.mono HH.out.hw.size))))
    | (have _t := tokZ; go_at_call 58; go_must (refine (rthen_any w17 (RT14.out.read (by decide)) (RC14.out.read (by decide)) OPSC.out (by have := HNT.out; simp <;> omega) (by have := HNC.out; omega)).mono ?_); clear tokZ _t
       rintro e w18 ⟨ov, rfl, hk1, hk2⟩
       go_must (have CS15 := Lib.hid (CS14.out.call hk2))
       go_must (have hsw18 := hk2.size)
       obtain ⟨aZ, cZ, rfl⟩ := hk1.form
       obtain ⟨nZ, hnZ⟩ : ∃ z, ((thenN ((thenN (oA ++ [(insI 33 ((nA : Int) + 1 + (nB : Int) + 1))]) oB) ++ [(insI 34 ((nA : Int) + 1 + (nB : Int) + 1 + (nC : Int)))]) oC)).length = z := ⟨_, rfl⟩
       rw [hnZ] at hk1 ⊢
       go_must (have bZ : nZ ≤ 3500 := by rw [← hnZ, thenN_len]; have := HNT.out; have := HNC.out; simp <;> omega)
       go_must (have HNZ := Lib.hid hnZ)
       go_must (have UZ := Lib.hid hk1.block)
       go_must (have RZ := Lib.hid hk1)
       clear hnZ hk1
       clear hk2
       clear e0 x0 x1 x2 x3 le lx k0 k1 k2
       go_must (have e0 : (w18).cell? ⟨be, 0, none⟩ = some (.slice (some ⟨b, off, none⟩) nl lc) := CS15.out.eb.cell rfl)
       go_must (have x0 : (w18).cell? ⟨bx, 0, none⟩ = some (.int .i64 (30 : Int)) := CS15.out.xb.cell rfl)
       go_must (have x1 : (w18).cell? ⟨bx, 1, none⟩ = some (.string (txt s)) := CS15.out.xb.cell rfl)
       go_must (have x2 : (w18).cell? ⟨bx, 2, none⟩ = some (.int .i64 n) := CS15.out.xb.cell rfl)
       go_must (have x3 : (w18).cell? ⟨bx, 3, none⟩ = some (.slice (some ⟨kb, ko, none⟩) 3 kc) := CS15.out.xb.cell rfl)
       go_must (have le : be < (w18).heap.size := Nat.lt_of_lt_of_le CS15.out.le CS15.out.lB)
       go_must (have lx : bx < (w18).heap.size := Nat.lt_of_lt_of_le CS15.out.lx CS15.out.lB)
       go_must (have k0 : (w18).cell? ⟨kb, ko, none⟩ = some (.int .i64 (qta : Int)) := rkid_cell (j := 0) HKV.out Eta.out (HH.out.hw.trans (CS15.out.bel.mono HH.out.hw.size)))
       go_must (have k1 : (w18).cell? ⟨kb, ko + 1, none⟩ = some (.int .i64 (qtb : Int)) := rkid_cell (j := 1) HKV.out Etb.out (HH.out.hw.trans (CS15.out.bel.mono HH.out.hw.size)))
       go_must (have k2 : (w18).cell? ⟨kb, ko + 2, none⟩ = some (.int .i64 (qtc : Int)) := rkid_cell (j := 2) HKV.out Etc.out (HH.out.hw.trans (CS15.out.bel.mono HH.out.hw.size))))
    | fail)
  go_ret
  rw [HCR.out]
  rw [HNA.out, HNB.out, HNC.out]
  exact rcodeK_of (RZ.out.mono (by omega)) CS15.out.bel
end Go.Proofs.YtdkoafmgenbkbaaDoor
