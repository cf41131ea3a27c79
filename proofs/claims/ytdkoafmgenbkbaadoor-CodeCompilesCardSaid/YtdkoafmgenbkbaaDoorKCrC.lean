/- Taken over out of another chapter (its text CrC): what is needed here. -/
import Derived.Test.YtdkoafmgenbkbaaDoorProg
import Derived.Test.YtdkoafmgenbkbaaDoorShelf
import Derived.Test.YtdkoafmgenbkbaaDoorCards
import Derived.Test.YtdkoafmgenbkbaaDoorTie
import Derived.Test.YtdkoafmgenbkbaaDoorKM1
import Derived.Test.YtdkoafmgenbkbaaDoorKM2
import Derived.Test.YtdkoafmgenbkbaaDoorKM3
import Derived.Test.YtdkoafmgenbkbaaDoorKCpR
import Derived.Test.YtdkoafmgenbkbaaDoorKM5
import Derived.Test.YtdkoafmgenbkbaaDoorKM4
import Derived.Below
import Derived.BigQuiet
import Derived.BigRegion
import Derived.Deep.AppendLies
import Derived.Deep.CutBlock
import Derived.Deep.CutRange
import Derived.Deep.Draws
import Derived.Deep.Fields
import Derived.Deep.LoopGhost
import Derived.Deep.QuietTactic
import Derived.Deep.RegionHeld2
import Derived.Deep.RegionHeld3
import Derived.Deep.RegionLaw
import Derived.Deep.Slices
import Derived.Defers
import Derived.IntWalk
import Derived.Laws.BytesString
import Derived.Laws.Cover1
import Derived.Laws.EntriesVeiled
import Derived.Laws.IdiomStrings
import Derived.Laws.MakeOwn
import Derived.Laws.Pointers
import Derived.Laws.Rows
import Derived.Lib.AppendStr
import Derived.Lib.Builder
import Derived.Lib.CutLaws
import Derived.Lib.FrozenHead
import Derived.Lib.Hide
import Derived.Lib.ItoaNum
import Derived.Lib.ParseIntB
import Derived.Lib.SliceRun
import Derived.Lib.SlicesS
import Derived.Maps.AppendAt
import Derived.Orders
import Derived.Outline
import Derived.OwnWalk
import Derived.ProofKit
import Derived.Recover
import Derived.RegionTactic
import Derived.StillTailTactics
import Derived.Tactics
import Derived.Tactics2
import Derived.WalkKit
import Derived.WalkMore
import Derived.WalkSmall
import Derived.WalkSpells
namespace Go.Proofs.YtdkoafmgenbkbaaDoor
set_option linter.unusedSimpArgs false
set_option linter.unusedVariables false
open Go.RowKit
set_option maxRecDepth 100000 in
set_option maxHeartbeats 8000000 in
theorem rcode_and {l : List ND} {lv : Value} {W0 : World} {f p : Nat} {s : List Nat} {n m : Int} {ta tb : Tr} {vs : List (List Nat)} {W : World} (H : RPre l lv W0 (f + 1) (.node 27 s n [ta, tb]) p vs m W) (ih : RCodeIs l lv W0 f) : Calls Tryd.prog 30 #[.agg #[lv], .int .i64 (p : Int), .int .i64 m] W (RCodeK W (cR (f + 1) (.node 27 s n [ta, tb]) vs m)) := by
  obtain ⟨hd, hks⟩ := stands_node H.st
  obtain ⟨la, lc, rfl, _, _⟩ := H.hs.form
  have hpl := (List.getElem?_eq_some_iff.1 hd).1
  obtain ⟨nl, hnl⟩ : ∃ z, l.length = z := ⟨_, rfl⟩
  rw [hnl] at H hpl ⊢
  try rw [hnl] at ih
  have hB6 := H.hw.alloc H.hw.size (.cells #[.slice la nl lc] 38)
  have hhs := H.hs
  obtain ⟨b, off, x, rfl, hbB, hxl, ⟨kv, rfl, hkv⟩, hx⟩ := (hhs.below hB6).at_ hd
  obtain ⟨ka, kc, rfl, _, _⟩ := hkv.form
  simp only [List.length_map, places_len] at hkv hx
  simp only [List.length_cons, List.length_nil, Nat.zero_add, Nat.reduceAdd] at hkv hx
  have x0 := hx 0 _ rfl
  have x1 := hx 1 _ rfl
  have x2 := hx 2 _ rfl
  have x3 := hx 3 _ rfl
  simp only [Nat.add_zero] at x0
  have p0 : (0 : Int) ≤ (p : Int) := Int.natCast_nonneg _
  have p1 : (p : Int) < (nl : Int) := by omega
  have HH := Lib.hid H
  have HNL := Lib.hid hnl
  have HKV := Lib.hid hkv
  have m1 := H.m1
  have m2 : m ≤ 1000 := by have := H.mf; omega
  obtain ⟨jI, hi, hz, hsz, hby⟩ := info_parts info_Ins
  have I := Lib.hid (And.intro hi (And.intro hz (And.intro hsz hby)))
  clear hi hz hsz hby H hd hkv hx hxl hks hnl hhs hB6
  go_enter Tryd.func30, Tryd.ntmps30
  go_upto_region 1 with fail
  have e0 : (W.alloc (.cells #[(.slice (some ⟨b, off, none⟩) nl lc)] 38)).cell? ⟨W.heap.size, 0, none⟩ = some (.slice (some ⟨b, off, none⟩) nl lc) := (Blk.new W 38 #[(.slice (some ⟨b, off, none⟩) nl lc)]).cell rfl
  have lw0 : W.heap.size < (W.alloc (.cells #[(.slice (some ⟨b, off, none⟩) nl lc)] 38)).heap.size := (Blk.new W 38 #[(.slice (some ⟨b, off, none⟩) nl lc)]).lt
  generalize hW1 : W.alloc (.cells #[(.slice (some ⟨b, off, none⟩) nl lc)] 38) = W1 at *
  have HW1 := Lib.hid hW1
  clear hW1
  go_upto_region 4 with (first
    | (go_at_call 55; go_must (refine (rins_step _).mono ?_); rintro e w2 ⟨rfl, hb⟩; go_must (have HB := Lib.hid (CSt.make HW1.out.symm hb)); clear hb)
    | fail)
  clear x0 x1 x2 x3 e0 lw0
  have CS := Lib.hid (HB.out.alloc (.cells #[.int .i64 1, .int .i64 m, .int .i64 0, .string ⟨#[]⟩] 46))
  have SK := Lib.hid (Blk.new w2 46 #[.int .i64 1, .int .i64 m, .int .i64 0, .string ⟨#[]⟩])
  generalize hW3 : w2.alloc (.cells #[.int .i64 1, .int .i64 m, .int .i64 0, .string ⟨#[]⟩] 46) = W3 at *
  obtain ⟨be, hbe⟩ : ∃ z, W.heap.size = z := ⟨_, rfl⟩
  obtain ⟨bx, hbx⟩ : ∃ z, W1.heap.size = z := ⟨_, rfl⟩
  obtain ⟨bs, hbs⟩ : ∃ z, w2.heap.size = z := ⟨_, rfl⟩
  rw [hbe] at CS
  rw [hbx, hbs] at CS
  rw [hbs] at SK
  first | rw [hbe, hbx, hbs] | rw [hbx, hbe, hbs]
  clear HB hW3 hbx hbs HW1
  have e0 : (W3).cell? ⟨be, 0, none⟩ = some (.slice (some ⟨b, off, none⟩) nl lc) := CS.out.eb.cell rfl
  have x0 : (W3).cell? ⟨bx, 0, none⟩ = some (.int .i64 (27 : Int)) := CS.out.xb.cell rfl
  have x1 : (W3).cell? ⟨bx, 1, none⟩ = some (.string (txt s)) := CS.out.xb.cell rfl
  have x2 : (W3).cell? ⟨bx, 2, none⟩ = some (.int .i64 n) := CS.out.xb.cell rfl
  have x3 : (W3).cell? ⟨bx, 3, none⟩ = some (.slice ka 2 kc) := CS.out.xb.cell rfl
  have le : be < (W3).heap.size := Nat.lt_of_lt_of_le CS.out.le CS.out.lB
  have lx : bx < (W3).heap.size := Nat.lt_of_lt_of_le CS.out.lx CS.out.lB
  have HSZ : Hid (1 + sizeL [ta, tb] ≤ 256) := Lib.hid (by have h1 := stands_size HH.out.st; have h2 := HH.out.hl; have := HNL.out; simp only [Tr.size] at h1; omega)
  obtain ⟨qta, sta, uta, eta⟩ := rkid HH.out.st HH.out.un (j := 0) (a := ta) rfl
  rw [if_neg (by omega)] at uta
  have Sta := Lib.hid sta
  have Vta := Lib.hid uta
  have Eta := Lib.hid eta
  clear sta uta eta
  obtain ⟨qtb, stb, utb, etb⟩ := rkid HH.out.st HH.out.un (j := 1) (a := tb) rfl
  rw [if_neg (by omega)] at utb
  have Stb := Lib.hid stb
  have Vtb := Lib.hid utb
  have Etb := Lib.hid etb
  clear stb utb etb
  obtain ⟨kb, ko, rfl⟩ := kid_form HKV.out (stands_node HH.out.st).2 (j := 0) (t := ta) rfl
  have wr1 : IntKind.i64.wrap (m + 1) = m + 1 := by rw [IntKind.wrap_i64]; omega
  have hs0 : bs ≤ W3.heap.size := CS.out.lB
  have hwl : W.heap.size ≤ bs := CS.out.wl
  obtain ⟨oA, hoA⟩ : ∃ z, cR f ta vs (m + 1) = z := ⟨_, rfl⟩
  have HOA := Lib.hid hoA
  have OPSA : Hid (∀ y ∈ oA, (1 ≤ y.op ∧ y.op ≤ 40) ∧ -1000000 ≤ y.arg ∧ y.arg ≤ 1000000) := Lib.hid (by rw [← hoA]; exact rcode_ops HH.out (j := 0) rfl (by simp) (by omega) (by omega))
  clear hoA
  obtain ⟨oB, hoB⟩ : ∃ z, cR f tb vs (1) = z := ⟨_, rfl⟩
  have HOB := Lib.hid hoB
  have OPSB : Hid (∀ y ∈ oB, (1 ≤ y.op ∧ y.op ≤ 40) ∧ -1000000 ≤ y.arg ∧ y.arg ≤ 1000000) := Lib.hid (by rw [← hoB]; exact rcode_ops HH.out (j := 1) rfl (by simp) (by omega) (by omega))
  clear hoB
  have hcr : cR (f + 1) (.node 27 s n [ta, tb]) vs m = thenN (oA ++ [insI 30 ((oA.length : Int) + 1 + (oB.length : Int) + 1)]) oB ++ [insI 32 0] := by rw [← HOA.out, ← HOB.out]; simp only [cR]; rw [if_pos (by decide)]; rfl
  have HCR := Lib.hid hcr
  clear hcr
  clear e0 x0 x1 x2 x3 le lx
  have e0 : (W3).cell? ⟨be, 0, none⟩ = some (.slice (some ⟨b, off, none⟩) nl lc) := CS.out.eb.cell rfl
  have x0 : (W3).cell? ⟨bx, 0, none⟩ = some (.int .i64 (27 : Int)) := CS.out.xb.cell rfl
  have x1 : (W3).cell? ⟨bx, 1, none⟩ = some (.string (txt s)) := CS.out.xb.cell rfl
  have x2 : (W3).cell? ⟨bx, 2, none⟩ = some (.int .i64 n) := CS.out.xb.cell rfl
  have x3 : (W3).cell? ⟨bx, 3, none⟩ = some (.slice (some ⟨kb, ko, none⟩) 2 kc) := CS.out.xb.cell rfl
  have le : be < (W3).heap.size := Nat.lt_of_lt_of_le CS.out.le CS.out.lB
  have lx : bx < (W3).heap.size := Nat.lt_of_lt_of_le CS.out.lx CS.out.lB
  have k0 : (W3).cell? ⟨kb, ko, none⟩ = some (.int .i64 (qta : Int)) := rkid_cell (j := 0) HKV.out Eta.out (HH.out.hw.trans (CS.out.bel.mono HH.out.hw.size))
  have k1 : (W3).cell? ⟨kb, ko + 1, none⟩ = some (.int .i64 (qtb : Int)) := rkid_cell (j := 1) HKV.out Etb.out (HH.out.hw.trans (CS.out.bel.mono HH.out.hw.size))
  go_upto_region 20 with fail
  go_still_tail 7, (by kernel_rfl)
  change wpList _ _ _ _ _ W3.drew
  have CS1 := Lib.hid (CS.out.drew)
  have hsW4 : W3.heap.size ≤ W3.drew.heap.size := Nat.le_refl _
  generalize W3.drew = W4 at *
  clear e0 x0 x1 x2 x3 le lx k0 k1
  have e0 : (W4).cell? ⟨be, 0, none⟩ = some (.slice (some ⟨b, off, none⟩) nl lc) := CS1.out.eb.cell rfl
  have x0 : (W4).cell? ⟨bx, 0, none⟩ = some (.int .i64 (27 : Int)) := CS1.out.xb.cell rfl
  have x1 : (W4).cell? ⟨bx, 1, none⟩ = some (.string (txt s)) := CS1.out.xb.cell rfl
  have x2 : (W4).cell? ⟨bx, 2, none⟩ = some (.int .i64 n) := CS1.out.xb.cell rfl
  have x3 : (W4).cell? ⟨bx, 3, none⟩ = some (.slice (some ⟨kb, ko, none⟩) 2 kc) := CS1.out.xb.cell rfl
  have le : be < (W4).heap.size := Nat.lt_of_lt_of_le CS1.out.le CS1.out.lB
  have lx : bx < (W4).heap.size := Nat.lt_of_lt_of_le CS1.out.lx CS1.out.lB
  have k0 : (W4).cell? ⟨kb, ko, none⟩ = some (.int .i64 (qta : Int)) := rkid_cell (j := 0) HKV.out Eta.out (HH.out.hw.trans (CS1.out.bel.mono HH.out.hw.size))
  have k1 : (W4).cell? ⟨kb, ko + 1, none⟩ = some (.int .i64 (qtb : Int)) := rkid_cell (j := 1) HKV.out Etb.out (HH.out.hw.trans (CS1.out.bel.mono HH.out.hw.size))
  have tokA : True := trivial
  go_upto_region 22 with (first
    | (have _t := tokA; go_at_call 30; go_must (refine (ih ta qta vs (m + 1) _ (RPre.kid (j := 0) HH.out rfl Sta.out Vta.out (by simp) (by omega) (by omega) CS1.out.bel)).mono ?_); clear tokA _t
       rintro e w5 ⟨ov, rfl, hk1, hk2⟩
       go_must (have CS2 := Lib.hid (CS1.out.call hk2))
       rw [HOA.out] at hk1
       go_must (have hsw5 := hk2.size)
       obtain ⟨aA, cA, rfl⟩ := hk1.form
       obtain ⟨nA, hnA⟩ : ∃ z, (oA).length = z := ⟨_, rfl⟩
       rw [hnA] at hk1 ⊢
       go_must (have bA : nA ≤ 1024 := by rw [← hnA, ← HOA.out]; have := cR_len f ta vs (m + 1); have := HSZ.out; simp only [sizeL] at this; omega)
       go_must (have HNA := Lib.hid hnA)
       go_must (have UA := Lib.hid hk1.block)
       go_must (have RA := Lib.hid hk1)
       clear hnA hk1
       clear hk2
       clear e0 x0 x1 x2 x3 le lx k0 k1
       go_must (have e0 : (w5).cell? ⟨be, 0, none⟩ = some (.slice (some ⟨b, off, none⟩) nl lc) := CS2.out.eb.cell rfl)
       go_must (have x0 : (w5).cell? ⟨bx, 0, none⟩ = some (.int .i64 (27 : Int)) := CS2.out.xb.cell rfl)
       go_must (have x1 : (w5).cell? ⟨bx, 1, none⟩ = some (.string (txt s)) := CS2.out.xb.cell rfl)
       go_must (have x2 : (w5).cell? ⟨bx, 2, none⟩ = some (.int .i64 n) := CS2.out.xb.cell rfl)
       go_must (have x3 : (w5).cell? ⟨bx, 3, none⟩ = some (.slice (some ⟨kb, ko, none⟩) 2 kc) := CS2.out.xb.cell rfl)
       go_must (have le : be < (w5).heap.size := Nat.lt_of_lt_of_le CS2.out.le CS2.out.lB)
       go_must (have lx : bx < (w5).heap.size := Nat.lt_of_lt_of_le CS2.out.lx CS2.out.lB)
       go_must (have k0 : (w5).cell? ⟨kb, ko, none⟩ = some (.int .i64 (qta : Int)) := rkid_cell (j := 0) HKV.out Eta.out (HH.out.hw.trans (CS2.out.bel.mono HH.out.hw.size)))
       go_must (have k1 : (w5).cell? ⟨kb, ko + 1, none⟩ = some (.int .i64 (qtb : Int)) := rkid_cell (j := 1) HKV.out Etb.out (HH.out.hw.trans (CS2.out.bel.mono HH.out.hw.size))))
    | fail)
  have tokY : True := trivial
  go_upto_region 25 with (first
    | (have _t := tokY; go_at_call 55; go_must (refine (rins_and _).mono ?_); clear tokY _t
       rintro e w6 ⟨rfl, hb⟩
       go_must (have CS3 := Lib.hid (CS2.out.call hb))
       go_must (have RA3 := Lib.hid (RA.out.below hb (Nat.le_refl _)))
       go_must (have hsw6 := hb.size)
       clear hb
       clear e0 x0 x1 x2 x3 le lx k0 k1
       go_must (have e0 : (w6).cell? ⟨be, 0, none⟩ = some (.slice (some ⟨b, off, none⟩) nl lc) := CS3.out.eb.cell rfl)
       go_must (have x0 : (w6).cell? ⟨bx, 0, none⟩ = some (.int .i64 (27 : Int)) := CS3.out.xb.cell rfl)
       go_must (have x1 : (w6).cell? ⟨bx, 1, none⟩ = some (.string (txt s)) := CS3.out.xb.cell rfl)
       go_must (have x2 : (w6).cell? ⟨bx, 2, none⟩ = some (.int .i64 n) := CS3.out.xb.cell rfl)
       go_must (have x3 : (w6).cell? ⟨bx, 3, none⟩ = some (.slice (some ⟨kb, ko, none⟩) 2 kc) := CS3.out.xb.cell rfl)
       go_must (have le : be < (w6).heap.size := Nat.lt_of_lt_of_le CS3.out.le CS3.out.lB)
       go_must (have lx : bx < (w6).heap.size := Nat.lt_of_lt_of_le CS3.out.lx CS3.out.lB)
       go_must (have k0 : (w6).cell? ⟨kb, ko, none⟩ = some (.int .i64 (qta : Int)) := rkid_cell (j := 0) HKV.out Eta.out (HH.out.hw.trans (CS3.out.bel.mono HH.out.hw.size)))
       go_must (have k1 : (w6).cell? ⟨kb, ko + 1, none⟩ = some (.int .i64 (qtb : Int)) := rkid_cell (j := 1) HKV.out Etb.out (HH.out.hw.trans (CS3.out.bel.mono HH.out.hw.size))))
    | fail)
  have CS4 := Lib.hid (CS3.out.alloc (.cells #[.int .i64 30, .int .i64 0, .int .i64 0, .string ⟨#[]⟩] 46))
  have RA4 := Lib.hid (RA3.out.alloc (.cells #[.int .i64 30, .int .i64 0, .int .i64 0, .string ⟨#[]⟩] 46))
  have By := Lib.hid (Blk.new w6 46 #[.int .i64 30, .int .i64 0, .int .i64 0, .string ⟨#[]⟩])
  have hsW7 : w6.heap.size < (w6.alloc (.cells #[.int .i64 30, .int .i64 0, .int .i64 0, .string ⟨#[]⟩] 46)).heap.size := by simp
  generalize w6.alloc (.cells #[.int .i64 30, .int .i64 0, .int .i64 0, .string ⟨#[]⟩] 46) = W7 at *
  clear e0 x0 x1 x2 x3 le lx k0 k1
  have e0 : (W7).cell? ⟨be, 0, none⟩ = some (.slice (some ⟨b, off, none⟩) nl lc) := CS4.out.eb.cell rfl
  have x0 : (W7).cell? ⟨bx, 0, none⟩ = some (.int .i64 (27 : Int)) := CS4.out.xb.cell rfl
  have x1 : (W7).cell? ⟨bx, 1, none⟩ = some (.string (txt s)) := CS4.out.xb.cell rfl
  have x2 : (W7).cell? ⟨bx, 2, none⟩ = some (.int .i64 n) := CS4.out.xb.cell rfl
  have x3 : (W7).cell? ⟨bx, 3, none⟩ = some (.slice (some ⟨kb, ko, none⟩) 2 kc) := CS4.out.xb.cell rfl
  have le : be < (W7).heap.size := Nat.lt_of_lt_of_le CS4.out.le CS4.out.lB
  have lx : bx < (W7).heap.size := Nat.lt_of_lt_of_le CS4.out.lx CS4.out.lB
  have k0 : (W7).cell? ⟨kb, ko, none⟩ = some (.int .i64 (qta : Int)) := rkid_cell (j := 0) HKV.out Eta.out (HH.out.hw.trans (CS4.out.bel.mono HH.out.hw.size))
  have k1 : (W7).cell? ⟨kb, ko + 1, none⟩ = some (.int .i64 (qtb : Int)) := rkid_cell (j := 1) HKV.out Etb.out (HH.out.hw.trans (CS4.out.bel.mono HH.out.hw.size))
  have y0 : (W7).cell? ⟨w6.heap.size, 0, none⟩ = some (.int .i64 30) := By.out.cell rfl
  have y1 : (W7).cell? ⟨w6.heap.size, 1, none⟩ = some (.int .i64 0) := By.out.cell rfl
  have y2 : (W7).cell? ⟨w6.heap.size, 2, none⟩ = some (.int .i64 0) := By.out.cell rfl
  have y3 : (W7).cell? ⟨w6.heap.size, 3, none⟩ = some (.string ⟨#[]⟩) := By.out.cell rfl
  have ly : w6.heap.size < (W7).heap.size := By.out.lt
  have yf0 : (W7).frozen? ⟨w6.heap.size, 0, none⟩ = false := By.out.frozen 0
  have yf1 : (W7).frozen? ⟨w6.heap.size, 1, none⟩ = false := By.out.frozen 1
  have yf2 : (W7).frozen? ⟨w6.heap.size, 2, none⟩ = false := By.out.frozen 2
  have yf3 : (W7).frozen? ⟨w6.heap.size, 3, none⟩ = false := By.out.frozen 3
  go_still_tail 5, (by kernel_rfl)
  change wpList _ _ _ _ _ W7.drew
  have CS5 := Lib.hid (CS4.out.drew)
  have RA5 := Lib.hid (RA4.out.drew)
  have By5 := Lib.hid (By.out.drwC)
  have hsW9 : W7.heap.size ≤ W7.drew.heap.size := Nat.le_refl _
  generalize W7.drew = W9 at *
  clear e0 x0 x1 x2 x3 le lx k0 k1 y0 y1 y2 y3 ly yf0 yf1 yf2 yf3
  have e0 : (W9).cell? ⟨be, 0, none⟩ = some (.slice (some ⟨b, off, none⟩) nl lc) := CS5.out.eb.cell rfl
  have x0 : (W9).cell? ⟨bx, 0, none⟩ = some (.int .i64 (27 : Int)) := CS5.out.xb.cell rfl
  have x1 : (W9).cell? ⟨bx, 1, none⟩ = some (.string (txt s)) := CS5.out.xb.cell rfl
  have x2 : (W9).cell? ⟨bx, 2, none⟩ = some (.int .i64 n) := CS5.out.xb.cell rfl
  have x3 : (W9).cell? ⟨bx, 3, none⟩ = some (.slice (some ⟨kb, ko, none⟩) 2 kc) := CS5.out.xb.cell rfl
  have le : be < (W9).heap.size := Nat.lt_of_lt_of_le CS5.out.le CS5.out.lB
  have lx : bx < (W9).heap.size := Nat.lt_of_lt_of_le CS5.out.lx CS5.out.lB
  have k0 : (W9).cell? ⟨kb, ko, none⟩ = some (.int .i64 (qta : Int)) := rkid_cell (j := 0) HKV.out Eta.out (HH.out.hw.trans (CS5.out.bel.mono HH.out.hw.size))
  have k1 : (W9).cell? ⟨kb, ko + 1, none⟩ = some (.int .i64 (qtb : Int)) := rkid_cell (j := 1) HKV.out Etb.out (HH.out.hw.trans (CS5.out.bel.mono HH.out.hw.size))
  have y0 : (W9).cell? ⟨w6.heap.size, 0, none⟩ = some (.int .i64 30) := By5.out.cell rfl
  have y1 : (W9).cell? ⟨w6.heap.size, 1, none⟩ = some (.int .i64 0) := By5.out.cell rfl
  have y2 : (W9).cell? ⟨w6.heap.size, 2, none⟩ = some (.int .i64 0) := By5.out.cell rfl
  have y3 : (W9).cell? ⟨w6.heap.size, 3, none⟩ = some (.string ⟨#[]⟩) := By5.out.cell rfl
  have ly : w6.heap.size < (W9).heap.size := By5.out.lt
  have yf0 : (W9).frozen? ⟨w6.heap.size, 0, none⟩ = false := By5.out.frozen 0
  have yf1 : (W9).frozen? ⟨w6.heap.size, 1, none⟩ = false := By5.out.frozen 1
  have yf2 : (W9).frozen? ⟨w6.heap.size, 2, none⟩ = false := By5.out.frozen 2
  have yf3 : (W9).frozen? ⟨w6.heap.size, 3, none⟩ = false := By5.out.frozen 3
  have tokB : True := trivial
  go_upto_region 26 with (first
    | (have _t := tokB; go_at_call 30; go_must (refine (ih tb qtb vs (1) _ (RPre.kid (j := 1) HH.out rfl Stb.out Vtb.out (by simp) (by omega) (by omega) CS5.out.bel)).mono ?_); clear tokB _t
       rintro e w10 ⟨ov, rfl, hk1, hk2⟩
       go_must (have CS6 := Lib.hid (CS5.out.call hk2))
       rw [HOB.out] at hk1
       go_must (have RA6 := Lib.hid (RA5.out.below hk2 (Nat.le_refl _)))
       go_must (have By6 := Lib.hid (By5.out.below hk2 By5.out.lt))
       go_must (have hsw10 := hk2.size)
       obtain ⟨aB, cB, rfl⟩ := hk1.form
       obtain ⟨nB, hnB⟩ : ∃ z, (oB).length = z := ⟨_, rfl⟩
       rw [hnB] at hk1 ⊢
       go_must (have bB : nB ≤ 1024 := by rw [← hnB, ← HOB.out]; have := cR_len f tb vs (1); have := HSZ.out; simp only [sizeL] at this; omega)
       go_must (have HNB := Lib.hid hnB)
       go_must (have UB := Lib.hid hk1.block)
       go_must (have RB := Lib.hid hk1)
       clear hnB hk1
       clear hk2
       clear e0 x0 x1 x2 x3 le lx k0 k1 y0 y1 y2 y3 ly yf0 yf1 yf2 yf3
       go_must (have e0 : (w10).cell? ⟨be, 0, none⟩ = some (.slice (some ⟨b, off, none⟩) nl lc) := CS6.out.eb.cell rfl)
       go_must (have x0 : (w10).cell? ⟨bx, 0, none⟩ = some (.int .i64 (27 : Int)) := CS6.out.xb.cell rfl)
       go_must (have x1 : (w10).cell? ⟨bx, 1, none⟩ = some (.string (txt s)) := CS6.out.xb.cell rfl)
       go_must (have x2 : (w10).cell? ⟨bx, 2, none⟩ = some (.int .i64 n) := CS6.out.xb.cell rfl)
       go_must (have x3 : (w10).cell? ⟨bx, 3, none⟩ = some (.slice (some ⟨kb, ko, none⟩) 2 kc) := CS6.out.xb.cell rfl)
       go_must (have le : be < (w10).heap.size := Nat.lt_of_lt_of_le CS6.out.le CS6.out.lB)
       go_must (have lx : bx < (w10).heap.size := Nat.lt_of_lt_of_le CS6.out.lx CS6.out.lB)
       go_must (have k0 : (w10).cell? ⟨kb, ko, none⟩ = some (.int .i64 (qta : Int)) := rkid_cell (j := 0) HKV.out Eta.out (HH.out.hw.trans (CS6.out.bel.mono HH.out.hw.size)))
       go_must (have k1 : (w10).cell? ⟨kb, ko + 1, none⟩ = some (.int .i64 (qtb : Int)) := rkid_cell (j := 1) HKV.out Etb.out (HH.out.hw.trans (CS6.out.bel.mono HH.out.hw.size)))
       go_must (have y0 : (w10).cell? ⟨w6.heap.size, 0, none⟩ = some (.int .i64 30) := By6.out.cell rfl)
       go_must (have y1 : (w10).cell? ⟨w6.heap.size, 1, none⟩ = some (.int .i64 0) := By6.out.cell rfl)
       go_must (have y2 : (w10).cell? ⟨w6.heap.size, 2, none⟩ = some (.int .i64 0) := By6.out.cell rfl)
       go_must (have y3 : (w10).cell? ⟨w6.heap.size, 3, none⟩ = some (.string ⟨#[]⟩) := By6.out.cell rfl)
       go_must (have ly : w6.heap.size < (w10).heap.size := By6.out.lt)
       go_must (have yf0 : (w10).frozen? ⟨w6.heap.size, 0, none⟩ = false := By6.out.frozen 0)
       go_must (have yf1 : (w10).frozen? ⟨w6.heap.size, 1, none⟩ = false := By6.out.frozen 1)
       go_must (have yf2 : (w10).frozen? ⟨w6.heap.size, 2, none⟩ = false := By6.out.frozen 2)
       go_must (have yf3 : (w10).frozen? ⟨w6.heap.size, 3, none⟩ = false := By6.out.frozen 3))
    | fail)
  go_upto_region 27 with fail
  generalize hW11 : World.setCell _ _ _ = W11
  have CS7 : Hid (CSt W W11 (.slice (some ⟨b, off, none⟩) nl lc) be bx #[.int .i64 (27 : Int), .string (txt s), .int .i64 n, .slice (some ⟨kb, ko, none⟩) 2 kc] bs) := Lib.hid (by rw [← hW11]; exact (CS6.out.set_ (g := w6.heap.size) (by omega) _ _))
  have RA7 : Hid (Own1 W11 W4.heap.size 46 4 Ins.Is (.slice aA nA cA) oA) := Lib.hid (by rw [← hW11]; exact (RA6.out.setOther (p := ⟨w6.heap.size, 1, none⟩) (fun e => by have := UA.out (w6.heap.size) e; omega) _))
  have RB7 : Hid (Own1 W11 W9.heap.size 46 4 Ins.Is (.slice aB nB cB) oB) := Lib.hid (by rw [← hW11]; exact (RB.out.setOther (p := ⟨w6.heap.size, 1, none⟩) (fun e => by have := UB.out (w6.heap.size) e; omega) _))
  have By7 : Hid (Blk W11 w6.heap.size 46 #[.int .i64 30, .int .i64 ((nA : Int) + 1 + (nB : Int) + 1), .int .i64 0, .string ⟨#[]⟩]) := Lib.hid (by rw [← hW11]; have := (By6.out.set_ 1 (.int .i64 ((nA : Int) + 1 + (nB : Int) + 1))); simpa using this)
  have hsW11 : w10.heap.size ≤ W11.heap.size := by rw [← hW11]; simp
  clear hW11
  clear e0 x0 x1 x2 x3 le lx k0 k1 y0 y1 y2 y3 ly yf0 yf1 yf2 yf3
  have e0 : (W11).cell? ⟨be, 0, none⟩ = some (.slice (some ⟨b, off, none⟩) nl lc) := CS7.out.eb.cell rfl
  have x0 : (W11).cell? ⟨bx, 0, none⟩ = some (.int .i64 (27 : Int)) := CS7.out.xb.cell rfl
  have x1 : (W11).cell? ⟨bx, 1, none⟩ = some (.string (txt s)) := CS7.out.xb.cell rfl
  have x2 : (W11).cell? ⟨bx, 2, none⟩ = some (.int .i64 n) := CS7.out.xb.cell rfl
  have x3 : (W11).cell? ⟨bx, 3, none⟩ = some (.slice (some ⟨kb, ko, none⟩) 2 kc) := CS7.out.xb.cell rfl
  have le : be < (W11).heap.size := Nat.lt_of_lt_of_le CS7.out.le CS7.out.lB
  have lx : bx < (W11).heap.size := Nat.lt_of_lt_of_le CS7.out.lx CS7.out.lB
  have k0 : (W11).cell? ⟨kb, ko, none⟩ = some (.int .i64 (qta : Int)) := rkid_cell (j := 0) HKV.out Eta.out (HH.out.hw.trans (CS7.out.bel.mono HH.out.hw.size))
  have k1 : (W11).cell? ⟨kb, ko + 1, none⟩ = some (.int .i64 (qtb : Int)) := rkid_cell (j := 1) HKV.out Etb.out (HH.out.hw.trans (CS7.out.bel.mono HH.out.hw.size))
  have y0 : (W11).cell? ⟨w6.heap.size, 0, none⟩ = some (.int .i64 30) := By7.out.cell rfl
  have y1 : (W11).cell? ⟨w6.heap.size, 1, none⟩ = some (.int .i64 ((nA : Int) + 1 + (nB : Int) + 1)) := By7.out.cell rfl
  have y2 : (W11).cell? ⟨w6.heap.size, 2, none⟩ = some (.int .i64 0) := By7.out.cell rfl
  have y3 : (W11).cell? ⟨w6.heap.size, 3, none⟩ = some (.string ⟨#[]⟩) := By7.out.cell rfl
  have ly : w6.heap.size < (W11).heap.size := By7.out.lt
  have yf0 : (W11).frozen? ⟨w6.heap.size, 0, none⟩ = false := By7.out.frozen 0
  have yf1 : (W11).frozen? ⟨w6.heap.size, 1, none⟩ = false := By7.out.frozen 1
  have yf2 : (W11).frozen? ⟨w6.heap.size, 2, none⟩ = false := By7.out.frozen 2
  have yf3 : (W11).frozen? ⟨w6.heap.size, 3, none⟩ = false := By7.out.frozen 3
  have tokP : True := trivial
  have tokT : True := trivial
  go_upto_region 28 with (first
    | (have _t := tokP
       at_builtin
       go_must (refine wpList_append_list rfl (.tmp 105) (.tmp 107) _ (by rfl) W4.heap.size (W11.heap.size + 1) 46 jI _ 4 40 Tryd.underlying22 I.out.1 I.out.2.1 I.out.2.2.1 I.out.2.2.2 rfl (by omega) (R := Ins.Is) (l := oA) (m := [(insI 30 ((nA : Int) + 1 + (nB : Int) + 1))]) (.slice aA nA cA) (by rfl) (by exact (RA7.out.alloc (.cells #[.int .i64 30, .int .i64 ((nA : Int) + 1 + (nB : Int) + 1), .int .i64 0, .string ⟨#[]⟩] 46))) (some ⟨W11.heap.size, 0, none⟩) 1 1 (by rfl) (SlR.new1 (w := W11) (e := 46) (g := W11.heap.size) rfl (x := [.int .i64 30, .int .i64 ((nA : Int) + 1 + (nB : Int) + 1), .int .i64 0, .string ⟨#[]⟩]) rfl (R := Ins.Is) (y := (insI 30 ((nA : Int) + 1 + (nB : Int) + 1))) ⟨rfl, ins_ok (by omega) (by omega) (by omega) (by omega) (by omega) (by omega) nil_size⟩) (nA + 1) (by rw [HNA.out]) Ins.Is.one (by have := HNA.out; unfold maxLen; simp <;> omega) (by have := HNA.out; simp <;> omega) (by simp <;> omega) ?_)
       clear tokP _t
       intro aA' cA' w12 hown hgr
       go_must (have CS8 := Lib.hid ((CS7.out.alloc (.cells #[.int .i64 30, .int .i64 ((nA : Int) + 1 + (nB : Int) + 1), .int .i64 0, .string ⟨#[]⟩] 46)).grown ((RA7.out.alloc (.cells #[.int .i64 30, .int .i64 ((nA : Int) + 1 + (nB : Int) + 1), .int .i64 0, .string ⟨#[]⟩] 46)).mono (by have := CS7.out.lB; omega)) hgr))
       go_must (have RB8 := Lib.hid ((RB7.out.alloc (.cells #[.int .i64 30, .int .i64 ((nA : Int) + 1 + (nB : Int) + 1), .int .i64 0, .string ⟨#[]⟩] 46)).keepG (RA7.out.alloc (.cells #[.int .i64 30, .int .i64 ((nA : Int) + 1 + (nB : Int) + 1), .int .i64 0, .string ⟨#[]⟩] 46)) hgr (.inr (fun g e => by have := (UA.out g e).2; omega))))
       go_must (have RA8 := Lib.hid hown)
       go_must (have hsw12 : W11.heap.size < w12.heap.size := by have := hgr.size; simp at this; omega)
       clear hown hgr
       clear e0 x0 x1 x2 x3 le lx k0 k1 y0 y1 y2 y3 ly yf0 yf1 yf2 yf3
       go_must (have e0 : (w12).cell? ⟨be, 0, none⟩ = some (.slice (some ⟨b, off, none⟩) nl lc) := CS8.out.eb.cell rfl)
       go_must (have x0 : (w12).cell? ⟨bx, 0, none⟩ = some (.int .i64 (27 : Int)) := CS8.out.xb.cell rfl)
       go_must (have x1 : (w12).cell? ⟨bx, 1, none⟩ = some (.string (txt s)) := CS8.out.xb.cell rfl)
       go_must (have x2 : (w12).cell? ⟨bx, 2, none⟩ = some (.int .i64 n) := CS8.out.xb.cell rfl)
       go_must (have x3 : (w12).cell? ⟨bx, 3, none⟩ = some (.slice (some ⟨kb, ko, none⟩) 2 kc) := CS8.out.xb.cell rfl)
       go_must (have le : be < (w12).heap.size := Nat.lt_of_lt_of_le CS8.out.le CS8.out.lB)
       go_must (have lx : bx < (w12).heap.size := Nat.lt_of_lt_of_le CS8.out.lx CS8.out.lB)
       go_must (have k0 : (w12).cell? ⟨kb, ko, none⟩ = some (.int .i64 (qta : Int)) := rkid_cell (j := 0) HKV.out Eta.out (HH.out.hw.trans (CS8.out.bel.mono HH.out.hw.size)))
       go_must (have k1 : (w12).cell? ⟨kb, ko + 1, none⟩ = some (.int .i64 (qtb : Int)) := rkid_cell (j := 1) HKV.out Etb.out (HH.out.hw.trans (CS8.out.bel.mono HH.out.hw.size))))
    | (have _t := tokT; go_at_call 58; go_must (refine (rthen_any w12 (RA8.out.read (by decide)) (RB8.out.read (by decide)) OPSB.out (by have := HNA.out; simp <;> omega) (by have := HNB.out; omega)).mono ?_); clear tokT _t
       rintro e w13 ⟨ov, rfl, hk1, hk2⟩
       go_must (have CS9 := Lib.hid (CS8.out.call hk2))
       go_must (have hsw13 := hk2.size)
       obtain ⟨aT, cT, rfl⟩ := hk1.form
       obtain ⟨nT, hnT⟩ : ∃ z, ((thenN (oA ++ [(insI 30 ((nA : Int) + 1 + (nB : Int) + 1))]) oB)).length = z := ⟨_, rfl⟩
       rw [hnT] at hk1 ⊢
       go_must (have bT : nT ≤ 2100 := by rw [← hnT, thenN_len]; have := HNA.out; have := HNB.out; simp <;> omega)
       go_must (have HNT := Lib.hid hnT)
       go_must (have UT := Lib.hid hk1.block)
       go_must (have RT := Lib.hid hk1)
       clear hnT hk1
       clear hk2
       clear e0 x0 x1 x2 x3 le lx k0 k1
       go_must (have e0 : (w13).cell? ⟨be, 0, none⟩ = some (.slice (some ⟨b, off, none⟩) nl lc) := CS9.out.eb.cell rfl)
       go_must (have x0 : (w13).cell? ⟨bx, 0, none⟩ = some (.int .i64 (27 : Int)) := CS9.out.xb.cell rfl)
       go_must (have x1 : (w13).cell? ⟨bx, 1, none⟩ = some (.string (txt s)) := CS9.out.xb.cell rfl)
       go_must (have x2 : (w13).cell? ⟨bx, 2, none⟩ = some (.int .i64 n) := CS9.out.xb.cell rfl)
       go_must (have x3 : (w13).cell? ⟨bx, 3, none⟩ = some (.slice (some ⟨kb, ko, none⟩) 2 kc) := CS9.out.xb.cell rfl)
       go_must (have le : be < (w13).heap.size := Nat.lt_of_lt_of_le CS9.out.le CS9.out.lB)
       go_must (have lx : bx < (w13).heap.size := Nat.lt_of_lt_of_le CS9.out.lx CS9.out.lB)
       go_must (have k0 : (w13).cell? ⟨kb, ko, none⟩ = some (.int .i64 (qta : Int)) := rkid_cell (j := 0) HKV.out Eta.out (HH.out.hw.trans (CS9.out.bel.mono HH.out.hw.size)))
       go_must (have k1 : (w13).cell? ⟨kb, ko + 1, none⟩ = some (.int .i64 (qtb : Int)) := rkid_cell (j := 1) HKV.out Etb.out (HH.out.hw.trans (CS9.out.bel.mono HH.out.hw.size))))
    | fail)
  have tokU : True := trivial
  have tokQ : True := trivial
  go_wp2_with (first
    | (have _t := tokU; go_at_call 55; go_must (refine (rins_truth _).mono ?_); clear tokU _t
       rintro e w14 ⟨rfl, hb⟩
       go_must (have CS10 := Lib.hid (CS9.out.call hb))
       go_must (have RT10 := Lib.hid (RT.out.below hb (Nat.le_refl _)))
       go_must (have hsw14 := hb.size)
       clear hb
       clear e0 x0 x1 x2 x3 le lx k0 k1
       go_must (have e0 : (w14).cell? ⟨be, 0, none⟩ = some (.slice (some ⟨b, off, none⟩) nl lc) := CS10.out.eb.cell rfl)
       go_must (have x0 : (w14).cell? ⟨bx, 0, none⟩ = some (.int .i64 (27 : Int)) := CS10.out.xb.cell rfl)
       go_must (have x1 : (w14).cell? ⟨bx, 1, none⟩ = some (.string (txt s)) := CS10.out.xb.cell rfl)
       go_must (have x2 : (w14).cell? ⟨bx, 2, none⟩ = some (.int .i64 n) := CS10.out.xb.cell rfl)
       go_must (have x3 : (w14).cell? ⟨bx, 3, none⟩ = some (.slice (some ⟨kb, ko, none⟩) 2 kc) := CS10.out.xb.cell rfl)
       go_must (have le : be < (w14).heap.size := Nat.lt_of_lt_of_le CS10.out.le CS10.out.lB)
       go_must (have lx : bx < (w14).heap.size := Nat.lt_of_lt_of_le CS10.out.lx CS10.out.lB)
       go_must (have k0 : (w14).cell? ⟨kb, ko, none⟩ = some (.int .i64 (qta : Int)) := rkid_cell (j := 0) HKV.out Eta.out (HH.out.hw.trans (CS10.out.bel.mono HH.out.hw.size)))
       go_must (have k1 : (w14).cell? ⟨kb, ko + 1, none⟩ = some (.int .i64 (qtb : Int)) := rkid_cell (j := 1) HKV.out Etb.out (HH.out.hw.trans (CS10.out.bel.mono HH.out.hw.size))))
    | (have _t := tokQ
       at_builtin
       go_must (refine wpList_append_list rfl (.tmp 111) (.tmp 113) _ (by rfl) w12.heap.size (w14.heap.size + 1) 46 jI _ 4 40 Tryd.underlying22 I.out.1 I.out.2.1 I.out.2.2.1 I.out.2.2.2 rfl (by omega) (R := Ins.Is) (l := (thenN (oA ++ [(insI 30 ((nA : Int) + 1 + (nB : Int) + 1))]) oB)) (m := [(insI 32 0)]) (.slice aT nT cT) (by rfl) (by exact (RT10.out.alloc (.cells #[.int .i64 32, .int .i64 0, .int .i64 0, .string ⟨#[]⟩] 46))) (some ⟨w14.heap.size, 0, none⟩) 1 1 (by rfl) (SlR.new1 (w := w14) (e := 46) (g := w14.heap.size) rfl (x := [.int .i64 32, .int .i64 0, .int .i64 0, .string ⟨#[]⟩]) rfl (R := Ins.Is) (y := (insI 32 0)) ⟨rfl, ins_ok (by omega) (by omega) (by omega) (by omega) (by omega) (by omega) nil_size⟩) (nT + 1) (by rw [HNT.out]) Ins.Is.one (by have := HNT.out; unfold maxLen; simp <;> omega) (by have := HNT.out; simp <;> omega) (by simp <;> omega) ?_)
       clear tokQ _t
       intro aT' cT' w15 hown hgr
       go_must (have CS11 := Lib.hid ((CS10.out.alloc (.cells #[.int .i64 32, .int .i64 0, .int .i64 0, .string ⟨#[]⟩] 46)).grown ((RT10.out.alloc (.cells #[.int .i64 32, .int .i64 0, .int .i64 0, .string ⟨#[]⟩] 46)).mono (by have := CS10.out.lB; omega)) hgr))
       go_must (have RT11 := Lib.hid hown)
       go_must (have hsw15 : w14.heap.size < w15.heap.size := by have := hgr.size; simp at this; omega)
       clear hown hgr
       clear e0 x0 x1 x2 x3 le lx k0 k1
       go_must (have e0 : (w15).cell? ⟨be, 0, none⟩ = some (.slice (some ⟨b, off, none⟩) nl lc) := CS11.out.eb.cell rfl)
       go_must (have x0 : (w15).cell? ⟨bx, 0, none⟩ = some (.int .i64 (27 : Int)) := CS11.out.xb.cell rfl)
       go_must (have x1 : (w15).cell? ⟨bx, 1, none⟩ = some (.string (txt s)) := CS11.out.xb.cell rfl)
       go_must (have x2 : (w15).cell? ⟨bx, 2, none⟩ = some (.int .i64 n) := CS11.out.xb.cell rfl)
       go_must (have x3 : (w15).cell? ⟨bx, 3, none⟩ = some (.slice (some ⟨kb, ko, none⟩) 2 kc) := CS11.out.xb.cell rfl)
       go_must (have le : be < (w15).heap.size := Nat.lt_of_lt_of_le CS11.out.le CS11.out.lB)
       go_must (have lx : bx < (w15).heap.size := Nat.lt_of_lt_of_le CS11.out.lx CS11.out.lB)
       go_must (have k0 : (w15).cell? ⟨kb, ko, none⟩ = some (.int .i64 (qta : Int)) := rkid_cell (j := 0) HKV.out Eta.out (HH.out.hw.trans (CS11.out.bel.mono HH.out.hw.size)))
       go_must (have k1 : (w15).cell? ⟨kb, ko + 1, none⟩ = some (.int .i64 (qtb : Int)) := rkid_cell (j := 1) HKV.out Etb.out (HH.out.hw.trans (CS11.out.bel.mono HH.out.hw.size))))
    | fail)
  go_ret
  rw [HCR.out]
  rw [HNA.out, HNB.out]
  exact rcodeK_of (RT11.out.mono (by omega)) CS11.out.bel
set_option maxRecDepth 100000 in
set_option maxHeartbeats 8000000 in
theorem rcode_or {l : List ND} {lv : Value} {W0 : World} {f p : Nat} {s : List Nat} {n m : Int} {ta tb : Tr} {vs : List (List Nat)} {W : World} (H : RPre l lv W0 (f + 1) (.node 28 s n [ta, tb]) p vs m W) (ih : RCodeIs l lv W0 f) : Calls Tryd.prog 30 #[.agg #[lv], .int .i64 (p : Int), .int .i64 m] W (RCodeK W (cR (f + 1) (.node 28 s n [ta, tb]) vs m)) := by
  obtain ⟨hd, hks⟩ := stands_node H.st
  obtain ⟨la, lc, rfl, _, _⟩ := H.hs.form
  have hpl := (List.getElem?_eq_some_iff.1 hd).1
  obtain ⟨nl, hnl⟩ : ∃ z, l.length = z := ⟨_, rfl⟩
  rw [hnl] at H hpl ⊢
  try rw [hnl] at ih
  have hB6 := H.hw.alloc H.hw.size (.cells #[.slice la nl lc] 38)
  have hhs := H.hs
  obtain ⟨b, off, x, rfl, hbB, hxl, ⟨kv, rfl, hkv⟩, hx⟩ := (hhs.below hB6).at_ hd
  obtain ⟨ka, kc, rfl, _, _⟩ := hkv.form
  simp only [List.length_map, places_len] at hkv hx
  simp only [List.length_cons, List.length_nil, Nat.zero_add, Nat.reduceAdd] at hkv hx
  have x0 := hx 0 _ rfl
  have x1 := hx 1 _ rfl
  have x2 := hx 2 _ rfl
  have x3 := hx 3 _ rfl
  simp only [Nat.add_zero] at x0
  have p0 : (0 : Int) ≤ (p : Int) := Int.natCast_nonneg _
  have p1 : (p : Int) < (nl : Int) := by omega
  have HH := Lib.hid H
  have HNL := Lib.hid hnl
  have HKV := Lib.hid hkv
  have m1 := H.m1
  have m2 : m ≤ 1000 := by have := H.mf; omega
  obtain ⟨jI, hi, hz, hsz, hby⟩ := info_parts info_Ins
  have I := Lib.hid (And.intro hi (And.intro hz (And.intro hsz hby)))
  clear hi hz hsz hby H hd hkv hx hxl hks hnl hhs hB6
  go_enter Tryd.func30, Tryd.ntmps30
  go_upto_region 1 with fail
  have e0 : (W.alloc (.cells #[(.slice (some ⟨b, off, none⟩) nl lc)] 38)).cell? ⟨W.heap.size, 0, none⟩ = some (.slice (some ⟨b, off, none⟩) nl lc) := (Blk.new W 38 #[(.slice (some ⟨b, off, none⟩) nl lc)]).cell rfl
  have lw0 : W.heap.size < (W.alloc (.cells #[(.slice (some ⟨b, off, none⟩) nl lc)] 38)).heap.size := (Blk.new W 38 #[(.slice (some ⟨b, off, none⟩) nl lc)]).lt
  generalize hW1 : W.alloc (.cells #[(.slice (some ⟨b, off, none⟩) nl lc)] 38) = W1 at *
  have HW1 := Lib.hid hW1
  clear hW1
  go_upto_region 4 with (first
    | (go_at_call 55; go_must (refine (rins_step _).mono ?_); rintro e w2 ⟨rfl, hb⟩; go_must (have HB := Lib.hid (CSt.make HW1.out.symm hb)); clear hb)
    | fail)
  clear x0 x1 x2 x3 e0 lw0
  have CS := Lib.hid (HB.out.alloc (.cells #[.int .i64 1, .int .i64 m, .int .i64 0, .string ⟨#[]⟩] 46))
  have SK := Lib.hid (Blk.new w2 46 #[.int .i64 1, .int .i64 m, .int .i64 0, .string ⟨#[]⟩])
  generalize hW3 : w2.alloc (.cells #[.int .i64 1, .int .i64 m, .int .i64 0, .string ⟨#[]⟩] 46) = W3 at *
  obtain ⟨be, hbe⟩ : ∃ z, W.heap.size = z := ⟨_, rfl⟩
  obtain ⟨bx, hbx⟩ : ∃ z, W1.heap.size = z := ⟨_, rfl⟩
  obtain ⟨bs, hbs⟩ : ∃ z, w2.heap.size = z := ⟨_, rfl⟩
  rw [hbe] at CS
  rw [hbx, hbs] at CS
  rw [hbs] at SK
  first | rw [hbe, hbx, hbs] | rw [hbx, hbe, hbs]
  clear HB hW3 hbx hbs HW1
  have e0 : (W3).cell? ⟨be, 0, none⟩ = some (.slice (some ⟨b, off, none⟩) nl lc) := CS.out.eb.cell rfl
  have x0 : (W3).cell? ⟨bx, 0, none⟩ = some (.int .i64 (28 : Int)) := CS.out.xb.cell rfl
  have x1 : (W3).cell? ⟨bx, 1, none⟩ = some (.string (txt s)) := CS.out.xb.cell rfl
  have x2 : (W3).cell? ⟨bx, 2, none⟩ = some (.int .i64 n) := CS.out.xb.cell rfl
  have x3 : (W3).cell? ⟨bx, 3, none⟩ = some (.slice ka 2 kc) := CS.out.xb.cell rfl
  have le : be < (W3).heap.size := Nat.lt_of_lt_of_le CS.out.le CS.out.lB
  have lx : bx < (W3).heap.size := Nat.lt_of_lt_of_le CS.out.lx CS.out.lB
  have HSZ : Hid (1 + sizeL [ta, tb] ≤ 256) := Lib.hid (by have h1 := stands_size HH.out.st; have h2 := HH.out.hl; have := HNL.out; simp only [Tr.size] at h1; omega)
  obtain ⟨qta, sta, uta, eta⟩ := rkid HH.out.st HH.out.un (j := 0) (a := ta) rfl
  rw [if_neg (by omega)] at uta
  have Sta := Lib.hid sta
  have Vta := Lib.hid uta
  have Eta := Lib.hid eta
  clear sta uta eta
  obtain ⟨qtb, stb, utb, etb⟩ := rkid HH.out.st HH.out.un (j := 1) (a := tb) rfl
  rw [if_neg (by omega)] at utb
  have Stb := Lib.hid stb
  have Vtb := Lib.hid utb
  have Etb := Lib.hid etb
  clear stb utb etb
  obtain ⟨kb, ko, rfl⟩ := kid_form HKV.out (stands_node HH.out.st).2 (j := 0) (t := ta) rfl
  have wr1 : IntKind.i64.wrap (m + 1) = m + 1 := by rw [IntKind.wrap_i64]; omega
  have hs0 : bs ≤ W3.heap.size := CS.out.lB
  have hwl : W.heap.size ≤ bs := CS.out.wl
  obtain ⟨oA, hoA⟩ : ∃ z, cR f ta vs (m + 1) = z := ⟨_, rfl⟩
  have HOA := Lib.hid hoA
  have OPSA : Hid (∀ y ∈ oA, (1 ≤ y.op ∧ y.op ≤ 40) ∧ -1000000 ≤ y.arg ∧ y.arg ≤ 1000000) := Lib.hid (by rw [← hoA]; exact rcode_ops HH.out (j := 0) rfl (by simp) (by omega) (by omega))
  clear hoA
  obtain ⟨oB, hoB⟩ : ∃ z, cR f tb vs (1) = z := ⟨_, rfl⟩
  have HOB := Lib.hid hoB
  have OPSB : Hid (∀ y ∈ oB, (1 ≤ y.op ∧ y.op ≤ 40) ∧ -1000000 ≤ y.arg ∧ y.arg ≤ 1000000) := Lib.hid (by rw [← hoB]; exact rcode_ops HH.out (j := 1) rfl (by simp) (by omega) (by omega))
  clear hoB
  have hcr : cR (f + 1) (.node 28 s n [ta, tb]) vs m = thenN (oA ++ [insI 31 ((oA.length : Int) + 1 + (oB.length : Int) + 1)]) oB ++ [insI 32 0] := by rw [← HOA.out, ← HOB.out]; simp only [cR]; rw [if_pos (by decide)]; rfl
  have HCR := Lib.hid hcr
  clear hcr
  clear e0 x0 x1 x2 x3 le lx
  have e0 : (W3).cell? ⟨be, 0, none⟩ = some (.slice (some ⟨b, off, none⟩) nl lc) := CS.out.eb.cell rfl
  have x0 : (W3).cell? ⟨bx, 0, none⟩ = some (.int .i64 (28 : Int)) := CS.out.xb.cell rfl
  have x1 : (W3).cell? ⟨bx, 1, none⟩ = some (.string (txt s)) := CS.out.xb.cell rfl
  have x2 : (W3).cell? ⟨bx, 2, none⟩ = some (.int .i64 n) := CS.out.xb.cell rfl
  have x3 : (W3).cell? ⟨bx, 3, none⟩ = some (.slice (some ⟨kb, ko, none⟩) 2 kc) := CS.out.xb.cell rfl
  have le : be < (W3).heap.size := Nat.lt_of_lt_of_le CS.out.le CS.out.lB
  have lx : bx < (W3).heap.size := Nat.lt_of_lt_of_le CS.out.lx CS.out.lB
  have k0 : (W3).cell? ⟨kb, ko, none⟩ = some (.int .i64 (qta : Int)) := rkid_cell (j := 0) HKV.out Eta.out (HH.out.hw.trans (CS.out.bel.mono HH.out.hw.size))
  have k1 : (W3).cell? ⟨kb, ko + 1, none⟩ = some (.int .i64 (qtb : Int)) := rkid_cell (j := 1) HKV.out Etb.out (HH.out.hw.trans (CS.out.bel.mono HH.out.hw.size))
  go_upto_region 20 with fail
  go_still_tail 7, (by kernel_rfl)
  change wpList _ _ _ _ _ W3.drew
  have CS1 := Lib.hid (CS.out.drew)
  have hsW4 : W3.heap.size ≤ W3.drew.heap.size := Nat.le_refl _
  generalize W3.drew = W4 at *
  clear e0 x0 x1 x2 x3 le lx k0 k1
  have e0 : (W4).cell? ⟨be, 0, none⟩ = some (.slice (some ⟨b, off, none⟩) nl lc) := CS1.out.eb.cell rfl
  have x0 : (W4).cell? ⟨bx, 0, none⟩ = some (.int .i64 (28 : Int)) := CS1.out.xb.cell rfl
  have x1 : (W4).cell? ⟨bx, 1, none⟩ = some (.string (txt s)) := CS1.out.xb.cell rfl
  have x2 : (W4).cell? ⟨bx, 2, none⟩ = some (.int .i64 n) := CS1.out.xb.cell rfl
  have x3 : (W4).cell? ⟨bx, 3, none⟩ = some (.slice (some ⟨kb, ko, none⟩) 2 kc) := CS1.out.xb.cell rfl
  have le : be < (W4).heap.size := Nat.lt_of_lt_of_le CS1.out.le CS1.out.lB
  have lx : bx < (W4).heap.size := Nat.lt_of_lt_of_le CS1.out.lx CS1.out.lB
  have k0 : (W4).cell? ⟨kb, ko, none⟩ = some (.int .i64 (qta : Int)) := rkid_cell (j := 0) HKV.out Eta.out (HH.out.hw.trans (CS1.out.bel.mono HH.out.hw.size))
  have k1 : (W4).cell? ⟨kb, ko + 1, none⟩ = some (.int .i64 (qtb : Int)) := rkid_cell (j := 1) HKV.out Etb.out (HH.out.hw.trans (CS1.out.bel.mono HH.out.hw.size))
  have tokA : True := trivial
  go_upto_region 22 with (first
    | (have _t := tokA; go_at_call 30; go_must (refine (ih ta qta vs (m + 1) _ (RPre.kid (j := 0) HH.out rfl Sta.out Vta.out (by simp) (by omega) (by omega) CS1.out.bel)).mono ?_); clear tokA _t
       rintro e w5 ⟨ov, rfl, hk1, hk2⟩
       go_must (have CS2 := Lib.hid (CS1.out.call hk2))
       rw [HOA.out] at hk1
       go_must (have hsw5 := hk2.size)
       obtain ⟨aA, cA, rfl⟩ := hk1.form
       obtain ⟨nA, hnA⟩ : ∃ z, (oA).length = z := ⟨_, rfl⟩
       rw [hnA] at hk1 ⊢
       go_must (have bA : nA ≤ 1024 := by rw [← hnA, ← HOA.out]; have := cR_len f ta vs (m + 1); have := HSZ.out; simp only [sizeL] at this; omega)
       go_must (have HNA := Lib.hid hnA)
       go_must (have UA := Lib.hid hk1.block)
       go_must (have RA := Lib.hid hk1)
       clear hnA hk1
       clear hk2
       clear e0 x0 x1 x2 x3 le lx k0 k1
       go_must (have e0 : (w5).cell? ⟨be, 0, none⟩ = some (.slice (some ⟨b, off, none⟩) nl lc) := CS2.out.eb.cell rfl)
       go_must (have x0 : (w5).cell? ⟨bx, 0, none⟩ = some (.int .i64 (28 : Int)) := CS2.out.xb.cell rfl)
       go_must (have x1 : (w5).cell? ⟨bx, 1, none⟩ = some (.string (txt s)) := CS2.out.xb.cell rfl)
       go_must (have x2 : (w5).cell? ⟨bx, 2, none⟩ = some (.int .i64 n) := CS2.out.xb.cell rfl)
       go_must (have x3 : (w5).cell? ⟨bx, 3, none⟩ = some (.slice (some ⟨kb, ko, none⟩) 2 kc) := CS2.out.xb.cell rfl)
       go_must (have le : be < (w5).heap.size := Nat.lt_of_lt_of_le CS2.out.le CS2.out.lB)
       go_must (have lx : bx < (w5).heap.size := Nat.lt_of_lt_of_le CS2.out.lx CS2.out.lB)
       go_must (have k0 : (w5).cell? ⟨kb, ko, none⟩ = some (.int .i64 (qta : Int)) := rkid_cell (j := 0) HKV.out Eta.out (HH.out.hw.trans (CS2.out.bel.mono HH.out.hw.size)))
       go_must (have k1 : (w5).cell? ⟨kb, ko + 1, none⟩ = some (.int .i64 (qtb : Int)) := rkid_cell (j := 1) HKV.out Etb.out (HH.out.hw.trans (CS2.out.bel.mono HH.out.hw.size))))
    | fail)
  have tokY : True := trivial
  have tokZ : True := trivial
  go_upto_region 24 with (first
    | (have _t := tokY; go_at_call 55; go_must (refine (rins_and _).mono ?_); clear tokY _t
       rintro e w6 ⟨rfl, hb⟩
       go_must (have CS3 := Lib.hid (CS2.out.call hb))
       go_must (have RA3 := Lib.hid (RA.out.below hb (Nat.le_refl _)))
       go_must (have hsw6 := hb.size)
       clear hb
       clear e0 x0 x1 x2 x3 le lx k0 k1
       go_must (have e0 : (w6).cell? ⟨be, 0, none⟩ = some (.slice (some ⟨b, off, none⟩) nl lc) := CS3.out.eb.cell rfl)
       go_must (have x0 : (w6).cell? ⟨bx, 0, none⟩ = some (.int .i64 (28 : Int)) := CS3.out.xb.cell rfl)
       go_must (have x1 : (w6).cell? ⟨bx, 1, none⟩ = some (.string (txt s)) := CS3.out.xb.cell rfl)
       go_must (have x2 : (w6).cell? ⟨bx, 2, none⟩ = some (.int .i64 n) := CS3.out.xb.cell rfl)
       go_must (have x3 : (w6).cell? ⟨bx, 3, none⟩ = some (.slice (some ⟨kb, ko, none⟩) 2 kc) := CS3.out.xb.cell rfl)
       go_must (have le : be < (w6).heap.size := Nat.lt_of_lt_of_le CS3.out.le CS3.out.lB)
       go_must (have lx : bx < (w6).heap.size := Nat.lt_of_lt_of_le CS3.out.lx CS3.out.lB)
       go_must (have k0 : (w6).cell? ⟨kb, ko, none⟩ = some (.int .i64 (qta : Int)) := rkid_cell (j := 0) HKV.out Eta.out (HH.out.hw.trans (CS3.out.bel.mono HH.out.hw.size)))
       go_must (have k1 : (w6).cell? ⟨kb, ko + 1, none⟩ = some (.int .i64 (qtb : Int)) := rkid_cell (j := 1) HKV.out Etb.out (HH.out.hw.trans (CS3.out.bel.mono HH.out.hw.size))))
    | fail)
  have CS4 := Lib.hid (CS3.out.alloc (.cells #[.int .i64 30, .int .i64 0, .int .i64 0, .string ⟨#[]⟩] 46))
  have RA4 := Lib.hid (RA3.out.alloc (.cells #[.int .i64 30, .int .i64 0, .int .i64 0, .string ⟨#[]⟩] 46))
  have By := Lib.hid (Blk.new w6 46 #[.int .i64 30, .int .i64 0, .int .i64 0, .string ⟨#[]⟩])
  have hsW6 : w6.heap.size < (w6.alloc (.cells #[.int .i64 30, .int .i64 0, .int .i64 0, .string ⟨#[]⟩] 46)).heap.size := by simp
  generalize w6.alloc (.cells #[.int .i64 30, .int .i64 0, .int .i64 0, .string ⟨#[]⟩] 46) = W6 at *
  clear e0 x0 x1 x2 x3 le lx k0 k1
  have e0 : (W6).cell? ⟨be, 0, none⟩ = some (.slice (some ⟨b, off, none⟩) nl lc) := CS4.out.eb.cell rfl
  have x0 : (W6).cell? ⟨bx, 0, none⟩ = some (.int .i64 (28 : Int)) := CS4.out.xb.cell rfl
  have x1 : (W6).cell? ⟨bx, 1, none⟩ = some (.string (txt s)) := CS4.out.xb.cell rfl
  have x2 : (W6).cell? ⟨bx, 2, none⟩ = some (.int .i64 n) := CS4.out.xb.cell rfl
  have x3 : (W6).cell? ⟨bx, 3, none⟩ = some (.slice (some ⟨kb, ko, none⟩) 2 kc) := CS4.out.xb.cell rfl
  have le : be < (W6).heap.size := Nat.lt_of_lt_of_le CS4.out.le CS4.out.lB
  have lx : bx < (W6).heap.size := Nat.lt_of_lt_of_le CS4.out.lx CS4.out.lB
  have k0 : (W6).cell? ⟨kb, ko, none⟩ = some (.int .i64 (qta : Int)) := rkid_cell (j := 0) HKV.out Eta.out (HH.out.hw.trans (CS4.out.bel.mono HH.out.hw.size))
  have k1 : (W6).cell? ⟨kb, ko + 1, none⟩ = some (.int .i64 (qtb : Int)) := rkid_cell (j := 1) HKV.out Etb.out (HH.out.hw.trans (CS4.out.bel.mono HH.out.hw.size))
  have y0 : (W6).cell? ⟨w6.heap.size, 0, none⟩ = some (.int .i64 30) := By.out.cell rfl
  have y1 : (W6).cell? ⟨w6.heap.size, 1, none⟩ = some (.int .i64 0) := By.out.cell rfl
  have y2 : (W6).cell? ⟨w6.heap.size, 2, none⟩ = some (.int .i64 0) := By.out.cell rfl
  have y3 : (W6).cell? ⟨w6.heap.size, 3, none⟩ = some (.string ⟨#[]⟩) := By.out.cell rfl
  have ly : w6.heap.size < (W6).heap.size := By.out.lt
  have yf0 : (W6).frozen? ⟨w6.heap.size, 0, none⟩ = false := By.out.frozen 0
  have yf1 : (W6).frozen? ⟨w6.heap.size, 1, none⟩ = false := By.out.frozen 1
  have yf2 : (W6).frozen? ⟨w6.heap.size, 2, none⟩ = false := By.out.frozen 2
  have yf3 : (W6).frozen? ⟨w6.heap.size, 3, none⟩ = false := By.out.frozen 3
  go_upto_region 25 with (first
    | (have _t := tokZ; go_at_call 55; go_must (refine (rins_or _).mono ?_); clear tokZ _t
       rintro e w7 ⟨rfl, hb⟩
       go_must (have CS5 := Lib.hid (CS4.out.call hb))
       go_must (have RA5 := Lib.hid (RA4.out.below hb (Nat.le_refl _)))
       go_must (have By5 := Lib.hid (By.out.below hb By.out.lt))
       go_must (have hsw7 := hb.size)
       clear hb
       clear e0 x0 x1 x2 x3 le lx k0 k1 y0 y1 y2 y3 ly yf0 yf1 yf2 yf3
       go_must (have e0 : (w7).cell? ⟨be, 0, none⟩ = some (.slice (some ⟨b, off, none⟩) nl lc) := CS5.out.eb.cell rfl)
       go_must (have x0 : (w7).cell? ⟨bx, 0, none⟩ = some (.int .i64 (28 : Int)) := CS5.out.xb.cell rfl)
       go_must (have x1 : (w7).cell? ⟨bx, 1, none⟩ = some (.string (txt s)) := CS5.out.xb.cell rfl)
       go_must (have x2 : (w7).cell? ⟨bx, 2, none⟩ = some (.int .i64 n) := CS5.out.xb.cell rfl)
       go_must (have x3 : (w7).cell? ⟨bx, 3, none⟩ = some (.slice (some ⟨kb, ko, none⟩) 2 kc) := CS5.out.xb.cell rfl)
       go_must (have le : be < (w7).heap.size := Nat.lt_of_lt_of_le CS5.out.le CS5.out.lB)
       go_must (have lx : bx < (w7).heap.size := Nat.lt_of_lt_of_le CS5.out.lx CS5.out.lB)
       go_must (have k0 : (w7).cell? ⟨kb, ko, none⟩ = some (.int .i64 (qta : Int)) := rkid_cell (j := 0) HKV.out Eta.out (HH.out.hw.trans (CS5.out.bel.mono HH.out.hw.size)))
       go_must (have k1 : (w7).cell? ⟨kb, ko + 1, none⟩ = some (.int .i64 (qtb : Int)) := rkid_cell (j := 1) HKV.out Etb.out (HH.out.hw.trans (CS5.out.bel.mono HH.out.hw.size)))
       go_must (have y0 : (w7).cell? ⟨w6.heap.size, 0, none⟩ = some (.int .i64 30) := By5.out.cell rfl)
       go_must (have y1 : (w7).cell? ⟨w6.heap.size, 1, none⟩ = some (.int .i64 0) := By5.out.cell rfl)
       go_must (have y2 : (w7).cell? ⟨w6.heap.size, 2, none⟩ = some (.int .i64 0) := By5.out.cell rfl)
       go_must (have y3 : (w7).cell? ⟨w6.heap.size, 3, none⟩ = some (.string ⟨#[]⟩) := By5.out.cell rfl)
       go_must (have ly : w6.heap.size < (w7).heap.size := By5.out.lt)
       go_must (have yf0 : (w7).frozen? ⟨w6.heap.size, 0, none⟩ = false := By5.out.frozen 0)
       go_must (have yf1 : (w7).frozen? ⟨w6.heap.size, 1, none⟩ = false := By5.out.frozen 1)
       go_must (have yf2 : (w7).frozen? ⟨w6.heap.size, 2, none⟩ = false := By5.out.frozen 2)
       go_must (have yf3 : (w7).frozen? ⟨w6.heap.size, 3, none⟩ = false := By5.out.frozen 3))
    | fail)
  generalize hW7 : World.setCell (World.setCell (World.setCell (World.setCell _ _ _) _ _) _ _) _ _ = W7
  have CS6 : Hid (CSt W W7 (.slice (some ⟨b, off, none⟩) nl lc) be bx #[.int .i64 (28 : Int), .string (txt s), .int .i64 n, .slice (some ⟨kb, ko, none⟩) 2 kc] bs) := Lib.hid (by rw [← hW7]; exact ((((CS5.out.set_ (g := w6.heap.size) (by omega) _ _).set_ (g := w6.heap.size) (by omega) _ _).set_ (g := w6.heap.size) (by omega) _ _).set_ (g := w6.heap.size) (by omega) _ _))
  have RA6 : Hid (Own1 W7 W4.heap.size 46 4 Ins.Is (.slice aA nA cA) oA) := Lib.hid (by rw [← hW7]; exact ((((RA5.out.setOther (p := ⟨w6.heap.size, 0, none⟩) (fun e => by have := UA.out (w6.heap.size) e; omega) _).setOther (p := ⟨w6.heap.size, 1, none⟩) (fun e => by have := UA.out (w6.heap.size) e; omega) _).setOther (p := ⟨w6.heap.size, 2, none⟩) (fun e => by have := UA.out (w6.heap.size) e; omega) _).setOther (p := ⟨w6.heap.size, 3, none⟩) (fun e => by have := UA.out (w6.heap.size) e; omega) _))
  have By6 : Hid (Blk W7 w6.heap.size 46 #[.int .i64 31, .int .i64 0, .int .i64 0, .string ⟨#[]⟩]) := Lib.hid (by rw [← hW7]; have := ((((By5.out.set_ 0 (.int .i64 31)).set_ 1 (.int .i64 0)).set_ 2 (.int .i64 0)).set_ 3 (.string ⟨#[]⟩)); simpa using this)
  have hsW7 : w7.heap.size ≤ W7.heap.size := by rw [← hW7]; simp
  clear hW7
  clear e0 x0 x1 x2 x3 le lx k0 k1 y0 y1 y2 y3 ly yf0 yf1 yf2 yf3
  have e0 : (W7).cell? ⟨be, 0, none⟩ = some (.slice (some ⟨b, off, none⟩) nl lc) := CS6.out.eb.cell rfl
  have x0 : (W7).cell? ⟨bx, 0, none⟩ = some (.int .i64 (28 : Int)) := CS6.out.xb.cell rfl
  have x1 : (W7).cell? ⟨bx, 1, none⟩ = some (.string (txt s)) := CS6.out.xb.cell rfl
  have x2 : (W7).cell? ⟨bx, 2, none⟩ = some (.int .i64 n) := CS6.out.xb.cell rfl
  have x3 : (W7).cell? ⟨bx, 3, none⟩ = some (.slice (some ⟨kb, ko, none⟩) 2 kc) := CS6.out.xb.cell rfl
  have le : be < (W7).heap.size := Nat.lt_of_lt_of_le CS6.out.le CS6.out.lB
  have lx : bx < (W7).heap.size := Nat.lt_of_lt_of_le CS6.out.lx CS6.out.lB
  have k0 : (W7).cell? ⟨kb, ko, none⟩ = some (.int .i64 (qta : Int)) := rkid_cell (j := 0) HKV.out Eta.out (HH.out.hw.trans (CS6.out.bel.mono HH.out.hw.size))
  have k1 : (W7).cell? ⟨kb, ko + 1, none⟩ = some (.int .i64 (qtb : Int)) := rkid_cell (j := 1) HKV.out Etb.out (HH.out.hw.trans (CS6.out.bel.mono HH.out.hw.size))
  have y0 : (W7).cell? ⟨w6.heap.size, 0, none⟩ = some (.int .i64 31) := By6.out.cell rfl
  have y1 : (W7).cell? ⟨w6.heap.size, 1, none⟩ = some (.int .i64 0) := By6.out.cell rfl
  have y2 : (W7).cell? ⟨w6.heap.size, 2, none⟩ = some (.int .i64 0) := By6.out.cell rfl
  have y3 : (W7).cell? ⟨w6.heap.size, 3, none⟩ = some (.string ⟨#[]⟩) := By6.out.cell rfl
  have ly : w6.heap.size < (W7).heap.size := By6.out.lt
  have yf0 : (W7).frozen? ⟨w6.heap.size, 0, none⟩ = false := By6.out.frozen 0
  have yf1 : (W7).frozen? ⟨w6.heap.size, 1, none⟩ = false := By6.out.frozen 1
  have yf2 : (W7).frozen? ⟨w6.heap.size, 2, none⟩ = false := By6.out.frozen 2
  have yf3 : (W7).frozen? ⟨w6.heap.size, 3, none⟩ = false := By6.out.frozen 3
  go_still_tail 5, (by kernel_rfl)
  change wpList _ _ _ _ _ W7.drew
  have CS7 := Lib.hid (CS6.out.drew)
  have RA7 := Lib.hid (RA6.out.drew)
  have By7 := Lib.hid (By6.out.drwC)
  have hsW9 : W7.heap.size ≤ W7.drew.heap.size := Nat.le_refl _
  generalize W7.drew = W9 at *
  clear e0 x0 x1 x2 x3 le lx k0 k1 y0 y1 y2 y3 ly yf0 yf1 yf2 yf3
  have e0 : (W9).cell? ⟨be, 0, none⟩ = some (.slice (some ⟨b, off, none⟩) nl lc) := CS7.out.eb.cell rfl
  have x0 : (W9).cell? ⟨bx, 0, none⟩ = some (.int .i64 (28 : Int)) := CS7.out.xb.cell rfl
  have x1 : (W9).cell? ⟨bx, 1, none⟩ = some (.string (txt s)) := CS7.out.xb.cell rfl
  have x2 : (W9).cell? ⟨bx, 2, none⟩ = some (.int .i64 n) := CS7.out.xb.cell rfl
  have x3 : (W9).cell? ⟨bx, 3, none⟩ = some (.slice (some ⟨kb, ko, none⟩) 2 kc) := CS7.out.xb.cell rfl
  have le : be < (W9).heap.size := Nat.lt_of_lt_of_le CS7.out.le CS7.out.lB
  have lx : bx < (W9).heap.size := Nat.lt_of_lt_of_le CS7.out.lx CS7.out.lB
  have k0 : (W9).cell? ⟨kb, ko, none⟩ = some (.int .i64 (qta : Int)) := rkid_cell (j := 0) HKV.out Eta.out (HH.out.hw.trans (CS7.out.bel.mono HH.out.hw.size))
  have k1 : (W9).cell? ⟨kb, ko + 1, none⟩ = some (.int .i64 (qtb : Int)) := rkid_cell (j := 1) HKV.out Etb.out (HH.out.hw.trans (CS7.out.bel.mono HH.out.hw.size))
  have y0 : (W9).cell? ⟨w6.heap.size, 0, none⟩ = some (.int .i64 31) := By7.out.cell rfl
  have y1 : (W9).cell? ⟨w6.heap.size, 1, none⟩ = some (.int .i64 0) := By7.out.cell rfl
  have y2 : (W9).cell? ⟨w6.heap.size, 2, none⟩ = some (.int .i64 0) := By7.out.cell rfl
  have y3 : (W9).cell? ⟨w6.heap.size, 3, none⟩ = some (.string ⟨#[]⟩) := By7.out.cell rfl
  have ly : w6.heap.size < (W9).heap.size := By7.out.lt
  have yf0 : (W9).frozen? ⟨w6.heap.size, 0, none⟩ = false := By7.out.frozen 0
  have yf1 : (W9).frozen? ⟨w6.heap.size, 1, none⟩ = false := By7.out.frozen 1
  have yf2 : (W9).frozen? ⟨w6.heap.size, 2, none⟩ = false := By7.out.frozen 2
  have yf3 : (W9).frozen? ⟨w6.heap.size, 3, none⟩ = false := By7.out.frozen 3
  have tokB : True := trivial
  go_upto_region 26 with (first
    | (have _t := tokB; go_at_call 30; go_must (refine (ih tb qtb vs (1) _ (RPre.kid (j := 1) HH.out rfl Stb.out Vtb.out (by simp) (by omega) (by omega) CS7.out.bel)).mono ?_); clear tokB _t
       rintro e w10 ⟨ov, rfl, hk1, hk2⟩
       go_must (have CS8 := Lib.hid (CS7.out.call hk2))
       rw [HOB.out] at hk1
       go_must (have RA8 := Lib.hid (RA7.out.below hk2 (Nat.le_refl _)))
       go_must (have By8 := Lib.hid (By7.out.below hk2 By7.out.lt))
       go_must (have hsw10 := hk2.size)
       obtain ⟨aB, cB, rfl⟩ := hk1.form
       obtain ⟨nB, hnB⟩ : ∃ z, (oB).length = z := ⟨_, rfl⟩
       rw [hnB] at hk1 ⊢
       go_must (have bB : nB ≤ 1024 := by rw [← hnB, ← HOB.out]; have := cR_len f tb vs (1); have := HSZ.out; simp only [sizeL] at this; omega)
       go_must (have HNB := Lib.hid hnB)
       go_must (have UB := Lib.hid hk1.block)
       go_must (have RB := Lib.hid hk1)
       clear hnB hk1
       clear hk2
       clear e0 x0 x1 x2 x3 le lx k0 k1 y0 y1 y2 y3 ly yf0 yf1 yf2 yf3
       go_must (have e0 : (w10).cell? ⟨be, 0, none⟩ = some (.slice (some ⟨b, off, none⟩) nl lc) := CS8.out.eb.cell rfl)
       go_must (have x0 : (w10).cell? ⟨bx, 0, none⟩ = some (.int .i64 (28 : Int)) := CS8.out.xb.cell rfl)
       go_must (have x1 : (w10).cell? ⟨bx, 1, none⟩ = some (.string (txt s)) := CS8.out.xb.cell rfl)
       go_must (have x2 : (w10).cell? ⟨bx, 2, none⟩ = some (.int .i64 n) := CS8.out.xb.cell rfl)
       go_must (have x3 : (w10).cell? ⟨bx, 3, none⟩ = some (.slice (some ⟨kb, ko, none⟩) 2 kc) := CS8.out.xb.cell rfl)
       go_must (have le : be < (w10).heap.size := Nat.lt_of_lt_of_le CS8.out.le CS8.out.lB)
       go_must (have lx : bx < (w10).heap.size := Nat.lt_of_lt_of_le CS8.out.lx CS8.out.lB)
       go_must (have k0 : (w10).cell? ⟨kb, ko, none⟩ = some (.int .i64 (qta : Int)) := rkid_cell (j := 0) HKV.out Eta.out (HH.out.hw.trans (CS8.out.bel.mono HH.out.hw.size)))
       go_must (have k1 : (w10).cell? ⟨kb, ko + 1, none⟩ = some (.int .i64 (qtb : Int)) := rkid_cell (j := 1) HKV.out Etb.out (HH.out.hw.trans (CS8.out.bel.mono HH.out.hw.size)))
       go_must (have y0 : (w10).cell? ⟨w6.heap.size, 0, none⟩ = some (.int .i64 31) := By8.out.cell rfl)
       go_must (have y1 : (w10).cell? ⟨w6.heap.size, 1, none⟩ = some (.int .i64 0) := By8.out.cell rfl)
       go_must (have y2 : (w10).cell? ⟨w6.heap.size, 2, none⟩ = some (.int .i64 0) := By8.out.cell rfl)
       go_must (have y3 : (w10).cell? ⟨w6.heap.size, 3, none⟩ = some (.string ⟨#[]⟩) := By8.out.cell rfl)
       go_must (have ly : w6.heap.size < (w10).heap.size := By8.out.lt)
       go_must (have yf0 : (w10).frozen? ⟨w6.heap.size, 0, none⟩ = false := By8.out.frozen 0)
       go_must (have yf1 : (w10).frozen? ⟨w6.heap.size, 1, none⟩ = false := By8.out.frozen 1)
       go_must (have yf2 : (w10).frozen? ⟨w6.heap.size, 2, none⟩ = false := By8.out.frozen 2)
       go_must (have yf3 : (w10).frozen? ⟨w6.heap.size, 3, none⟩ = false := By8.out.frozen 3))
    | fail)
  go_upto_region 27 with fail
  generalize hW11 : World.setCell _ _ _ = W11
  have CS9 : Hid (CSt W W11 (.slice (some ⟨b, off, none⟩) nl lc) be bx #[.int .i64 (28 : Int), .string (txt s), .int .i64 n, .slice (some ⟨kb, ko, none⟩) 2 kc] bs) := Lib.hid (by rw [← hW11]; exact (CS8.out.set_ (g := w6.heap.size) (by omega) _ _))
  have RA9 : Hid (Own1 W11 W4.heap.size 46 4 Ins.Is (.slice aA nA cA) oA) := Lib.hid (by rw [← hW11]; exact (RA8.out.setOther (p := ⟨w6.heap.size, 1, none⟩) (fun e => by have := UA.out (w6.heap.size) e; omega) _))
  have RB9 : Hid (Own1 W11 W9.heap.size 46 4 Ins.Is (.slice aB nB cB) oB) := Lib.hid (by rw [← hW11]; exact (RB.out.setOther (p := ⟨w6.heap.size, 1, none⟩) (fun e => by have := UB.out (w6.heap.size) e; omega) _))
  have By9 : Hid (Blk W11 w6.heap.size 46 #[.int .i64 31, .int .i64 ((nA : Int) + 1 + (nB : Int) + 1), .int .i64 0, .string ⟨#[]⟩]) := Lib.hid (by rw [← hW11]; have := (By8.out.set_ 1 (.int .i64 ((nA : Int) + 1 + (nB : Int) + 1))); simpa using this)
  have hsW11 : w10.heap.size ≤ W11.heap.size := by rw [← hW11]; simp
  clear hW11
  clear e0 x0 x1 x2 x3 le lx k0 k1 y0 y1 y2 y3 ly yf0 yf1 yf2 yf3
  have e0 : (W11).cell? ⟨be, 0, none⟩ = some (.slice (some ⟨b, off, none⟩) nl lc) := CS9.out.eb.cell rfl
  have x0 : (W11).cell? ⟨bx, 0, none⟩ = some (.int .i64 (28 : Int)) := CS9.out.xb.cell rfl
  have x1 : (W11).cell? ⟨bx, 1, none⟩ = some (.string (txt s)) := CS9.out.xb.cell rfl
  have x2 : (W11).cell? ⟨bx, 2, none⟩ = some (.int .i64 n) := CS9.out.xb.cell rfl
  have x3 : (W11).cell? ⟨bx, 3, none⟩ = some (.slice (some ⟨kb, ko, none⟩) 2 kc) := CS9.out.xb.cell rfl
  have le : be < (W11).heap.size := Nat.lt_of_lt_of_le CS9.out.le CS9.out.lB
  have lx : bx < (W11).heap.size := Nat.lt_of_lt_of_le CS9.out.lx CS9.out.lB
  have k0 : (W11).cell? ⟨kb, ko, none⟩ = some (.int .i64 (qta : Int)) := rkid_cell (j := 0) HKV.out Eta.out (HH.out.hw.trans (CS9.out.bel.mono HH.out.hw.size))
  have k1 : (W11).cell? ⟨kb, ko + 1, none⟩ = some (.int .i64 (qtb : Int)) := rkid_cell (j := 1) HKV.out Etb.out (HH.out.hw.trans (CS9.out.bel.mono HH.out.hw.size))
  have y0 : (W11).cell? ⟨w6.heap.size, 0, none⟩ = some (.int .i64 31) := By9.out.cell rfl
  have y1 : (W11).cell? ⟨w6.heap.size, 1, none⟩ = some (.int .i64 ((nA : Int) + 1 + (nB : Int) + 1)) := By9.out.cell rfl
  have y2 : (W11).cell? ⟨w6.heap.size, 2, none⟩ = some (.int .i64 0) := By9.out.cell rfl
  have y3 : (W11).cell? ⟨w6.heap.size, 3, none⟩ = some (.string ⟨#[]⟩) := By9.out.cell rfl
  have ly : w6.heap.size < (W11).heap.size := By9.out.lt
  have yf0 : (W11).frozen? ⟨w6.heap.size, 0, none⟩ = false := By9.out.frozen 0
  have yf1 : (W11).frozen? ⟨w6.heap.size, 1, none⟩ = false := By9.out.frozen 1
  have yf2 : (W11).frozen? ⟨w6.heap.size, 2, none⟩ = false := By9.out.frozen 2
  have yf3 : (W11).frozen? ⟨w6.heap.size, 3, none⟩ = false := By9.out.frozen 3
  have tokP : True := trivial
  have tokT : True := trivial
  go_upto_region 28 with (first
    | (have _t := tokP
       at_builtin
       go_must (refine wpList_append_list rfl (.tmp 105) (.tmp 107) _ (by rfl) W4.heap.size (W11.heap.size + 1) 46 jI _ 4 40 Tryd.underlying22 I.out.1 I.out.2.1 I.out.2.2.1 I.out.2.2.2 rfl (by omega) (R := Ins.Is) (l := oA) (m := [(insI 31 ((nA : Int) + 1 + (nB : Int) + 1))]) (.slice aA nA cA) (by rfl) (by exact (RA9.out.alloc (.cells #[.int .i64 31, .int .i64 ((nA : Int) + 1 + (nB : Int) + 1), .int .i64 0, .string ⟨#[]⟩] 46))) (some ⟨W11.heap.size, 0, none⟩) 1 1 (by rfl) (SlR.new1 (w := W11) (e := 46) (g := W11.heap.size) rfl (x := [.int .i64 31, .int .i64 ((nA : Int) + 1 + (nB : Int) + 1), .int .i64 0, .string ⟨#[]⟩]) rfl (R := Ins.Is) (y := (insI 31 ((nA : Int) + 1 + (nB : Int) + 1))) ⟨rfl, ins_ok (by omega) (by omega) (by omega) (by omega) (by omega) (by omega) nil_size⟩) (nA + 1) (by rw [HNA.out]) Ins.Is.one (by have := HNA.out; unfold maxLen; simp <;> omega) (by have := HNA.out; simp <;> omega) (by simp <;> omega) ?_)
       clear tokP _t
       intro aA' cA' w12 hown hgr
       go_must (have CS10 := Lib.hid ((CS9.out.alloc (.cells #[.int .i64 31, .int .i64 ((nA : Int) + 1 + (nB : Int) + 1), .int .i64 0, .string ⟨#[]⟩] 46)).grown ((RA9.out.alloc (.cells #[.int .i64 31, .int .i64 ((nA : Int) + 1 + (nB : Int) + 1), .int .i64 0, .string ⟨#[]⟩] 46)).mono (by have := CS9.out.lB; omega)) hgr))
       go_must (have RB10 := Lib.hid ((RB9.out.alloc (.cells #[.int .i64 31, .int .i64 ((nA : Int) + 1 + (nB : Int) + 1), .int .i64 0, .string ⟨#[]⟩] 46)).keepG (RA9.out.alloc (.cells #[.int .i64 31, .int .i64 ((nA : Int) + 1 + (nB : Int) + 1), .int .i64 0, .string ⟨#[]⟩] 46)) hgr (.inr (fun g e => by have := (UA.out g e).2; omega))))
       go_must (have RA10 := Lib.hid hown)
       go_must (have hsw12 : W11.heap.size < w12.heap.size := by have := hgr.size; simp at this; omega)
       clear hown hgr
       clear e0 x0 x1 x2 x3 le lx k0 k1 y0 y1 y2 y3 ly yf0 yf1 yf2 yf3
       go_must (have e0 : (w12).cell? ⟨be, 0, none⟩ = some (.slice (some ⟨b, off, none⟩) nl lc) := CS10.out.eb.cell rfl)
       go_must (have x0 : (w12).cell? ⟨bx, 0, none⟩ = some (.int .i64 (28 : Int)) := CS10.out.xb.cell rfl)
       go_must (have x1 : (w12).cell? ⟨bx, 1, none⟩ = some (.string (txt s)) := CS10.out.xb.cell rfl)
       go_must (have x2 : (w12).cell? ⟨bx, 2, none⟩ = some (.int .i64 n) := CS10.out.xb.cell rfl)
       go_must (have x3 : (w12).cell? ⟨bx, 3, none⟩ = some (.slice (some ⟨kb, ko, none⟩) 2 kc) := CS10.out.xb.cell rfl)
       go_must (have le : be < (w12).heap.size := Nat.lt_of_lt_of_le CS10.out.le CS10.out.lB)
       go_must (have lx : bx < (w12).heap.size := Nat.lt_of_lt_of_le CS10.out.lx CS10.out.lB)
       go_must (have k0 : (w12).cell? ⟨kb, ko, none⟩ = some (.int .i64 (qta : Int)) := rkid_cell (j := 0) HKV.out Eta.out (HH.out.hw.trans (CS10.out.bel.mono HH.out.hw.size)))
       go_must (have k1 : (w12).cell? ⟨kb, ko + 1, none⟩ = some (.int .i64 (qtb : Int)) := rkid_cell (j := 1) HKV.out Etb.out (HH.out.hw.trans (CS10.out.bel.mono HH.out.hw.size))))
    | (have _t := tokT; go_at_call 58; go_must (refine (rthen_any w12 (RA10.out.read (by decide)) (RB10.out.read (by decide)) OPSB.out (by have := HNA.out; simp <;> omega) (by have := HNB.out; omega)).mono ?_); clear tokT _t
       rintro e w13 ⟨ov, rfl, hk1, hk2⟩
       go_must (have CS11 := Lib.hid (CS10.out.call hk2))
       go_must (have hsw13 := hk2.size)
       obtain ⟨aT, cT, rfl⟩ := hk1.form
       obtain ⟨nT, hnT⟩ : ∃ z, ((thenN (oA ++ [(insI 31 ((nA : Int) + 1 + (nB : Int) + 1))]) oB)).length = z := ⟨_, rfl⟩
       rw [hnT] at hk1 ⊢
       go_must (have bT : nT ≤ 2100 := by rw [← hnT, thenN_len]; have := HNA.out; have := HNB.out; simp <;> omega)
       go_must (have HNT := Lib.hid hnT)
       go_must (have UT := Lib.hid hk1.block)
       go_must (have RT := Lib.hid hk1)
       clear hnT hk1
       clear hk2
       clear e0 x0 x1 x2 x3 le lx k0 k1
       go_must (have e0 : (w13).cell? ⟨be, 0, none⟩ = some (.slice (some ⟨b, off, none⟩) nl lc) := CS11.out.eb.cell rfl)
       go_must (have x0 : (w13).cell? ⟨bx, 0, none⟩ = some (.int .i64 (28 : Int)) := CS11.out.xb.cell rfl)
       go_must (have x1 : (w13).cell? ⟨bx, 1, none⟩ = some (.string (txt s)) := CS11.out.xb.cell rfl)
       go_must (have x2 : (w13).cell? ⟨bx, 2, none⟩ = some (.int .i64 n) := CS11.out.xb.cell rfl)
       go_must (have x3 : (w13).cell? ⟨bx, 3, none⟩ = some (.slice (some ⟨kb, ko, none⟩) 2 kc) := CS11.out.xb.cell rfl)
       go_must (have le : be < (w13).heap.size := Nat.lt_of_lt_of_le CS11.out.le CS11.out.lB)
       go_must (have lx : bx < (w13).heap.size := Nat.lt_of_lt_of_le CS11.out.lx CS11.out.lB)
       go_must (have k0 : (w13).cell? ⟨kb, ko, none⟩ = some (.int .i64 (qta : Int)) := rkid_cell (j := 0) HKV.out Eta.out (HH.out.hw.trans (CS11.out.bel.mono HH.out.hw.size)))
       go_must (have k1 : (w13).cell? ⟨kb, ko + 1, none⟩ = some (.int .i64 (qtb : Int)) := rkid_cell (j := 1) HKV.out Etb.out (HH.out.hw.trans (CS11.out.bel.mono HH.out.hw.size))))
    | fail)
  have tokU : True := trivial
  have tokQ : True := trivial
  go_wp2_with (first
    | (have _t := tokU; go_at_call 55; go_must (refine (rins_truth _).mono ?_); clear tokU _t
       rintro e w14 ⟨rfl, hb⟩
       go_must (have CS12 := Lib.hid (CS11.out.call hb))
       go_must (have RT12 := Lib.hid (RT.out.below hb (Nat.le_refl _)))
       go_must (have hsw14 := hb.size)
       clear hb
       clear e0 x0 x1 x2 x3 le lx k0 k1
       go_must (have e0 : (w14).cell? ⟨be, 0, none⟩ = some (.slice (some ⟨b, off, none⟩) nl lc) := CS12.out.eb.cell rfl)
       go_must (have x0 : (w14).cell? ⟨bx, 0, none⟩ = some (.int .i64 (28 : Int)) := CS12.out.xb.cell rfl)
       go_must (have x1 : (w14).cell? ⟨bx, 1, none⟩ = some (.string (txt s)) := CS12.out.xb.cell rfl)
       go_must (have x2 : (w14).cell? ⟨bx, 2, none⟩ = some (.int .i64 n) := CS12.out.xb.cell rfl)
       go_must (have x3 : (w14).cell? ⟨bx, 3, none⟩ = some (.slice (some ⟨kb, ko, none⟩) 2 kc) := CS12.out.xb.cell rfl)
       go_must (have le : be < (w14).heap.size := Nat.lt_of_lt_of_le CS12.out.le CS12.out.lB)
       go_must (have lx : bx < (w14).heap.size := Nat.lt_of_lt_of_le CS12.out.lx CS12.out.lB)
       go_must (have k0 : (w14).cell? ⟨kb, ko, none⟩ = some (.int .i64 (qta : Int)) := rkid_cell (j := 0) HKV.out Eta.out (HH.out.hw.trans (CS12.out.bel.mono HH.out.hw.size)))
       go_must (have k1 : (w14).cell? ⟨kb, ko + 1, none⟩ = some (.int .i64 (qtb : Int)) := rkid_cell (j := 1) HKV.out Etb.out (HH.out.hw.trans (CS12.out.bel.mono HH.out.hw.size))))
    | (have _t := tokQ
       at_builtin
       go_must (refine wpList_append_list rfl (.tmp 111) (.tmp 113) _ (by rfl) w12.heap.size (w14.heap.size + 1) 46 jI _ 4 40 Tryd.underlying22 I.out.1 I.out.2.1 I.out.2.2.1 I.out.2.2.2 rfl (by omega) (R := Ins.Is) (l := (thenN (oA ++ [(insI 31 ((nA : Int) + 1 + (nB : Int) + 1))]) oB)) (m := [(insI 32 0)]) (.slice aT nT cT) (by rfl) (by exact (RT12.out.alloc (.cells #[.int .i64 32, .int .i64 0, .int .i64 0, .string ⟨#[]⟩] 46))) (some ⟨w14.heap.size, 0, none⟩) 1 1 (by rfl) (SlR.new1 (w := w14) (e := 46) (g := w14.heap.size) rfl (x := [.int .i64 32, .int .i64 0, .int .i64 0, .string ⟨#[]⟩]) rfl (R := Ins.Is) (y := (insI 32 0)) ⟨rfl, ins_ok (by omega) (by omega) (by omega) (by omega) (by omega) (by omega) nil_size⟩) (nT + 1) (by rw [HNT.out]) Ins.Is.one (by have := HNT.out; unfold maxLen; simp <;> omega) (by have := HNT.out; simp <;> omega) (by simp <;> omega) ?_)
       clear tokQ _t
       intro aT' cT' w15 hown hgr
       go_must (have CS13 := Lib.hid ((CS12.out.alloc (.cells #[.int .i64 32, .int .i64 0, .int .i64 0, .string ⟨#[]⟩] 46)).grown ((RT12.out.alloc (.cells #[.int .i64 32, .int .i64 0, .int .i64 0, .string ⟨#[]⟩] 46)).mono (by have := CS12.out.lB; omega)) hgr))
       go_must (have RT13 := Lib.hid hown)
       go_must (have hsw15 : w14.heap.size < w15.heap.size := by have := hgr.size; simp at this; omega)
       clear hown hgr
       clear e0 x0 x1 x2 x3 le lx k0 k1
       go_must (have e0 : (w15).cell? ⟨be, 0, none⟩ = some (.slice (some ⟨b, off, none⟩) nl lc) := CS13.out.eb.cell rfl)
       go_must (have x0 : (w15).cell? ⟨bx, 0, none⟩ = some (.int .i64 (28 : Int)) := CS13.out.xb.cell rfl)
       go_must (have x1 : (w15).cell? ⟨bx, 1, none⟩ = some (.string (txt s)) := CS13.out.xb.cell rfl)
       go_must (have x2 : (w15).cell? ⟨bx, 2, none⟩ = some (.int .i64 n) := CS13.out.xb.cell rfl)
       go_must (have x3 : (w15).cell? ⟨bx, 3, none⟩ = some (.slice (some ⟨kb, ko, none⟩) 2 kc) := CS13.out.xb.cell rfl)
       go_must (have le : be < (w15).heap.size := Nat.lt_of_lt_of_le CS13.out.le CS13.out.lB)
       go_must (have lx : bx < (w15).heap.size := Nat.lt_of_lt_of_le CS13.out.lx CS13.out.lB)
       go_must (have k0 : (w15).cell? ⟨kb, ko, none⟩ = some (.int .i64 (qta : Int)) := rkid_cell (j := 0) HKV.out Eta.out (HH.out.hw.trans (CS13.out.bel.mono HH.out.hw.size)))
       go_must (have k1 : (w15).cell? ⟨kb, ko + 1, none⟩ = some (.int .i64 (qtb : Int)) := rkid_cell (j := 1) HKV.out Etb.out (HH.out.hw.trans (CS13.out.bel.mono HH.out.hw.size))))
    | fail)
  go_ret
  rw [HCR.out]
  rw [HNA.out, HNB.out]
  exact rcodeK_of (RT13.out.mono (by omega)) CS13.out.bel
end Go.Proofs.YtdkoafmgenbkbaaDoor
