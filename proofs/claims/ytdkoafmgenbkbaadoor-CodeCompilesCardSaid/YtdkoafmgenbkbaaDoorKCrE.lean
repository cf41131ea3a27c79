/- Taken over out of another chapter (its text CrE): what is needed here. -/
import Derived.Test.YtdkoafmgenbkbaaDoorProg
import Derived.Test.YtdkoafmgenbkbaaDoorShelf
import Derived.Test.YtdkoafmgenbkbaaDoorCards
import Derived.Test.YtdkoafmgenbkbaaDoorTie
import Derived.Test.YtdkoafmgenbkbaaDoorKM1
import Derived.Test.YtdkoafmgenbkbaaDoorKM4
import Derived.Test.YtdkoafmgenbkbaaDoorKM2
import Derived.Test.YtdkoafmgenbkbaaDoorKM3
import Derived.Test.YtdkoafmgenbkbaaDoorKCpW
import Derived.Test.YtdkoafmgenbkbaaDoorKM5
import Derived.Below
import Derived.BigQuiet
import Derived.BigRegion
import Derived.Deep.AppendLies
import Derived.Deep.CutBlock
import Derived.Deep.CutRange
import Derived.Deep.Draws
import Derived.Deep.Fields
import Derived.Deep.LoopGhost
import Derived.Deep.QuietTactic
import Derived.Deep.RegionHeld2
import Derived.Deep.RegionHeld3
import Derived.Deep.RegionLaw
import Derived.Deep.Slices
import Derived.Defers
import Derived.IntWalk
import Derived.Laws.BytesString
import Derived.Laws.Cover1
import Derived.Laws.EntriesVeiled
import Derived.Laws.IdiomStrings
import Derived.Laws.MakeOwn
import Derived.Laws.Pointers
import Derived.Laws.Rows
import Derived.Lib.AppendStr
import Derived.Lib.Builder
import Derived.Lib.CutLaws
import Derived.Lib.FrozenHead
import Derived.Lib.Hide
import Derived.Lib.ItoaNum
import Derived.Lib.ParseIntB
import Derived.Lib.SliceRun
import Derived.Lib.SlicesS
import Derived.Maps.AppendAt
import Derived.Orders
import Derived.Outline
import Derived.OwnWalk
import Derived.ProofKit
import Derived.Recover
import Derived.RegionTactic
import Derived.StillTailTactics
import Derived.Tactics
import Derived.Tactics2
import Derived.WalkKit
import Derived.WalkMore
import Derived.WalkSmall
import Derived.WalkSpells
namespace Go.Proofs.YtdkoafmgenbkbaaDoor
set_option linter.unusedSimpArgs false
set_option linter.unusedVariables false
open Go.RowKit
set_option maxRecDepth 100000 in
set_option maxHeartbeats 8000000 in
theorem rcode_int {l : List ND} {lv : Value} {W0 : World} {f p : Nat} {s : List Nat} {n m : Int} {vs : List (List Nat)} {W : World} (H : RPre l lv W0 (f + 1) (.node 1 s n []) p vs m W) : Calls Tryd.prog 30 #[.agg #[lv], .int .i64 (p : Int), .int .i64 m] W (RCodeK W (cR (f + 1) (.node 1 s n []) vs m)) := by
  obtain ⟨hd, hks⟩ := stands_node H.st
  obtain ⟨la, lc, rfl, _, _⟩ := H.hs.form
  have hpl := (List.getElem?_eq_some_iff.1 hd).1
  obtain ⟨nl, hnl⟩ : ∃ z, l.length = z := ⟨_, rfl⟩
  rw [hnl] at H hpl ⊢
  try rw [hnl] at ih
  have hB6 := H.hw.alloc H.hw.size (.cells #[.slice la nl lc] 38)
  have hhs := H.hs
  obtain ⟨b, off, x, rfl, hbB, hxl, ⟨kv, rfl, hkv⟩, hx⟩ := (hhs.below hB6).at_ hd
  obtain ⟨ka, kc, rfl, _, _⟩ := hkv.form
  simp only [List.length_map, places_len] at hkv hx
  simp only [List.length_cons, List.length_nil, Nat.zero_add, Nat.reduceAdd] at hkv hx
  have x0 := hx 0 _ rfl
  have x1 := hx 1 _ rfl
  have x2 := hx 2 _ rfl
  have x3 := hx 3 _ rfl
  simp only [Nat.add_zero] at x0
  have p0 : (0 : Int) ≤ (p : Int) := Int.natCast_nonneg _
  have p1 : (p : Int) < (nl : Int) := by omega
  have HH := Lib.hid H
  have HNL := Lib.hid hnl
  have HKV := Lib.hid hkv
  have m1 := H.m1
  have m2 : m ≤ 1000 := by have := H.mf; omega
  obtain ⟨jI, hi, hz, hsz, hby⟩ := info_parts info_Ins
  have I := Lib.hid (And.intro hi (And.intro hz (And.intro hsz hby)))
  clear hi hz hsz hby H hd hkv hx hxl hks hnl hhs hB6
  go_enter Tryd.func30, Tryd.ntmps30
  go_upto_region 1 with fail
  have e0 : (W.alloc (.cells #[(.slice (some ⟨b, off, none⟩) nl lc)] 38)).cell? ⟨W.heap.size, 0, none⟩ = some (.slice (some ⟨b, off, none⟩) nl lc) := (Blk.new W 38 #[(.slice (some ⟨b, off, none⟩) nl lc)]).cell rfl
  have lw0 : W.heap.size < (W.alloc (.cells #[(.slice (some ⟨b, off, none⟩) nl lc)] 38)).heap.size := (Blk.new W 38 #[(.slice (some ⟨b, off, none⟩) nl lc)]).lt
  generalize hW1 : W.alloc (.cells #[(.slice (some ⟨b, off, none⟩) nl lc)] 38) = W1 at *
  have HW1 := Lib.hid hW1
  clear hW1
  go_upto_region 4 with (first
    | (go_at_call 55; go_must (refine (rins_step _).mono ?_); rintro e w2 ⟨rfl, hb⟩; go_must (have HB := Lib.hid (CSt.make HW1.out.symm hb)); clear hb)
    | fail)
  clear x0 x1 x2 x3 e0 lw0
  have CS := Lib.hid (HB.out.alloc (.cells #[.int .i64 1, .int .i64 m, .int .i64 0, .string ⟨#[]⟩] 46))
  have SK := Lib.hid (Blk.new w2 46 #[.int .i64 1, .int .i64 m, .int .i64 0, .string ⟨#[]⟩])
  generalize hW3 : w2.alloc (.cells #[.int .i64 1, .int .i64 m, .int .i64 0, .string ⟨#[]⟩] 46) = W3 at *
  obtain ⟨be, hbe⟩ : ∃ z, W.heap.size = z := ⟨_, rfl⟩
  obtain ⟨bx, hbx⟩ : ∃ z, W1.heap.size = z := ⟨_, rfl⟩
  obtain ⟨bs, hbs⟩ : ∃ z, w2.heap.size = z := ⟨_, rfl⟩
  rw [hbe] at CS
  rw [hbx, hbs] at CS
  rw [hbs] at SK
  first | rw [hbe, hbx, hbs] | rw [hbx, hbe, hbs]
  clear HB hW3 hbx hbs HW1
  have e0 : (W3).cell? ⟨be, 0, none⟩ = some (.slice (some ⟨b, off, none⟩) nl lc) := CS.out.eb.cell rfl
  have x0 : (W3).cell? ⟨bx, 0, none⟩ = some (.int .i64 (1 : Int)) := CS.out.xb.cell rfl
  have x1 : (W3).cell? ⟨bx, 1, none⟩ = some (.string (txt s)) := CS.out.xb.cell rfl
  have x2 : (W3).cell? ⟨bx, 2, none⟩ = some (.int .i64 n) := CS.out.xb.cell rfl
  have x3 : (W3).cell? ⟨bx, 3, none⟩ = some (.slice ka 0 kc) := CS.out.xb.cell rfl
  have le : be < (W3).heap.size := Nat.lt_of_lt_of_le CS.out.le CS.out.lB
  have lx : bx < (W3).heap.size := Nat.lt_of_lt_of_le CS.out.lx CS.out.lB
  have hs0 : bs ≤ W3.heap.size := CS.out.lB
  have hwl : W.heap.size ≤ bs := CS.out.wl
  have HND := Lib.hid HH.out.good.1
  have hsS : bs < W3.heap.size := SK.out.lt
  have hp : p < l.length := by rw [HNL.out]; omega
  have WK : Hid (∀ w, Calls Tryd.prog 56 #[.int .i64 1] w fun e w' => e = .returned (.string (wordK 1)) ∧ Quiet w w') := Lib.hid (fun w => rkind_any 1 (by omega) w)
  obtain ⟨wk, hwk⟩ : ∃ z, wordK 1 = z := ⟨_, rfl⟩
  have HWK := Lib.hid hwk
  rw [hwk] at WK
  clear hwk
  clear e0 x0 x1 x2 x3 le lx
  have e0 : (W3).cell? ⟨be, 0, none⟩ = some (.slice (some ⟨b, off, none⟩) nl lc) := CS.out.eb.cell rfl
  have x0 : (W3).cell? ⟨bx, 0, none⟩ = some (.int .i64 (1 : Int)) := CS.out.xb.cell rfl
  have x1 : (W3).cell? ⟨bx, 1, none⟩ = some (.string (txt s)) := CS.out.xb.cell rfl
  have x2 : (W3).cell? ⟨bx, 2, none⟩ = some (.int .i64 n) := CS.out.xb.cell rfl
  have x3 : (W3).cell? ⟨bx, 3, none⟩ = some (.slice ka 0 kc) := CS.out.xb.cell rfl
  have le : be < (W3).heap.size := Nat.lt_of_lt_of_le CS.out.le CS.out.lB
  have lx : bx < (W3).heap.size := Nat.lt_of_lt_of_le CS.out.lx CS.out.lB
  have s0 : (W3).cell? ⟨bs, 0, none⟩ = some (.int .i64 1) := SK.out.cell rfl
  have s1 : (W3).cell? ⟨bs, 1, none⟩ = some (.int .i64 m) := SK.out.cell rfl
  have s2 : (W3).cell? ⟨bs, 2, none⟩ = some (.int .i64 0) := SK.out.cell rfl
  have s3 : (W3).cell? ⟨bs, 3, none⟩ = some (.string ⟨#[]⟩) := SK.out.cell rfl
  have ls : bs < (W3).heap.size := SK.out.lt
  have sf0 : (W3).frozen? ⟨bs, 0, none⟩ = false := SK.out.frozen 0
  have sf1 : (W3).frozen? ⟨bs, 1, none⟩ = false := SK.out.frozen 1
  have sf2 : (W3).frozen? ⟨bs, 2, none⟩ = false := SK.out.frozen 2
  have sf3 : (W3).frozen? ⟨bs, 3, none⟩ = false := SK.out.frozen 3
  have tokW : True := trivial
  have tokI : True := trivial
  go_upto_region 6 with (first
    | (have _t := tokW; go_at_call 56; go_must (refine (WK.out _).mono ?_); clear tokW _t
       rintro e w' ⟨rfl, nq, rfl⟩
       go_must (have CS1 := Lib.hid (CS.out.drewN nq))
       go_must (have Bs1 := Lib.hid (SK.out.drwN nq))
       go_must (have hsW3q : W3.heap.size ≤ (W3.drewN nq).heap.size := Nat.le_refl _)
       clear e0 x0 x1 x2 x3 le lx s0 s1 s2 s3 ls sf0 sf1 sf2 sf3
       go_must (have e0 : ((W3.drewN nq)).cell? ⟨be, 0, none⟩ = some (.slice (some ⟨b, off, none⟩) nl lc) := CS1.out.eb.cell rfl)
       go_must (have x0 : ((W3.drewN nq)).cell? ⟨bx, 0, none⟩ = some (.int .i64 (1 : Int)) := CS1.out.xb.cell rfl)
       go_must (have x1 : ((W3.drewN nq)).cell? ⟨bx, 1, none⟩ = some (.string (txt s)) := CS1.out.xb.cell rfl)
       go_must (have x2 : ((W3.drewN nq)).cell? ⟨bx, 2, none⟩ = some (.int .i64 n) := CS1.out.xb.cell rfl)
       go_must (have x3 : ((W3.drewN nq)).cell? ⟨bx, 3, none⟩ = some (.slice ka 0 kc) := CS1.out.xb.cell rfl)
       go_must (have le : be < ((W3.drewN nq)).heap.size := Nat.lt_of_lt_of_le CS1.out.le CS1.out.lB)
       go_must (have lx : bx < ((W3.drewN nq)).heap.size := Nat.lt_of_lt_of_le CS1.out.lx CS1.out.lB)
       go_must (have s0 : ((W3.drewN nq)).cell? ⟨bs, 0, none⟩ = some (.int .i64 1) := Bs1.out.cell rfl)
       go_must (have s1 : ((W3.drewN nq)).cell? ⟨bs, 1, none⟩ = some (.int .i64 m) := Bs1.out.cell rfl)
       go_must (have s2 : ((W3.drewN nq)).cell? ⟨bs, 2, none⟩ = some (.int .i64 0) := Bs1.out.cell rfl)
       go_must (have s3 : ((W3.drewN nq)).cell? ⟨bs, 3, none⟩ = some (.string ⟨#[]⟩) := Bs1.out.cell rfl)
       go_must (have ls : bs < ((W3.drewN nq)).heap.size := Bs1.out.lt)
       go_must (have sf0 : ((W3.drewN nq)).frozen? ⟨bs, 0, none⟩ = false := Bs1.out.frozen 0)
       go_must (have sf1 : ((W3.drewN nq)).frozen? ⟨bs, 1, none⟩ = false := Bs1.out.frozen 1)
       go_must (have sf2 : ((W3.drewN nq)).frozen? ⟨bs, 2, none⟩ = false := Bs1.out.frozen 2)
       go_must (have sf3 : ((W3.drewN nq)).frozen? ⟨bs, 3, none⟩ = false := Bs1.out.frozen 3))
    | (have _t := tokI; go_at_call 55; go_must (refine (rins_any wk _).mono ?_); clear tokI _t
       rintro e w5 ⟨rfl, hb⟩
       go_must (have CS2 := Lib.hid (CS1.out.call hb))
       go_must (have Bs2 := Lib.hid (Bs1.out.below hb Bs1.out.lt))
       go_must (have hsw5 := hb.size)
       clear hb
       clear e0 x0 x1 x2 x3 le lx s0 s1 s2 s3 ls sf0 sf1 sf2 sf3
       go_must (have e0 : (w5).cell? ⟨be, 0, none⟩ = some (.slice (some ⟨b, off, none⟩) nl lc) := CS2.out.eb.cell rfl)
       go_must (have x0 : (w5).cell? ⟨bx, 0, none⟩ = some (.int .i64 (1 : Int)) := CS2.out.xb.cell rfl)
       go_must (have x1 : (w5).cell? ⟨bx, 1, none⟩ = some (.string (txt s)) := CS2.out.xb.cell rfl)
       go_must (have x2 : (w5).cell? ⟨bx, 2, none⟩ = some (.int .i64 n) := CS2.out.xb.cell rfl)
       go_must (have x3 : (w5).cell? ⟨bx, 3, none⟩ = some (.slice ka 0 kc) := CS2.out.xb.cell rfl)
       go_must (have le : be < (w5).heap.size := Nat.lt_of_lt_of_le CS2.out.le CS2.out.lB)
       go_must (have lx : bx < (w5).heap.size := Nat.lt_of_lt_of_le CS2.out.lx CS2.out.lB)
       go_must (have s0 : (w5).cell? ⟨bs, 0, none⟩ = some (.int .i64 1) := Bs2.out.cell rfl)
       go_must (have s1 : (w5).cell? ⟨bs, 1, none⟩ = some (.int .i64 m) := Bs2.out.cell rfl)
       go_must (have s2 : (w5).cell? ⟨bs, 2, none⟩ = some (.int .i64 0) := Bs2.out.cell rfl)
       go_must (have s3 : (w5).cell? ⟨bs, 3, none⟩ = some (.string ⟨#[]⟩) := Bs2.out.cell rfl)
       go_must (have ls : bs < (w5).heap.size := Bs2.out.lt)
       go_must (have sf0 : (w5).frozen? ⟨bs, 0, none⟩ = false := Bs2.out.frozen 0)
       go_must (have sf1 : (w5).frozen? ⟨bs, 1, none⟩ = false := Bs2.out.frozen 1)
       go_must (have sf2 : (w5).frozen? ⟨bs, 2, none⟩ = false := Bs2.out.frozen 2)
       go_must (have sf3 : (w5).frozen? ⟨bs, 3, none⟩ = false := Bs2.out.frozen 3))
    | fail)
  obtain ⟨op0, hop0⟩ : ∃ z, opR wk = z := ⟨_, rfl⟩
  rw [hop0]
  have HOP := Lib.hid hop0
  clear hop0
  have CS3 := Lib.hid (CS2.out.alloc (.cells #[.int .i64 op0, .int .i64 0, .int .i64 0, .string ⟨#[]⟩] 46))
  have Bs3 := Lib.hid (Bs2.out.alloc (.cells #[.int .i64 op0, .int .i64 0, .int .i64 0, .string ⟨#[]⟩] 46))
  have By := Lib.hid (Blk.new w5 46 #[.int .i64 op0, .int .i64 0, .int .i64 0, .string ⟨#[]⟩])
  have hsW6 : w5.heap.size < (w5.alloc (.cells #[.int .i64 op0, .int .i64 0, .int .i64 0, .string ⟨#[]⟩] 46)).heap.size := by simp
  generalize w5.alloc (.cells #[.int .i64 op0, .int .i64 0, .int .i64 0, .string ⟨#[]⟩] 46) = W6 at *
  clear e0 x0 x1 x2 x3 le lx s0 s1 s2 s3 ls sf0 sf1 sf2 sf3
  have e0 : (W6).cell? ⟨be, 0, none⟩ = some (.slice (some ⟨b, off, none⟩) nl lc) := CS3.out.eb.cell rfl
  have x0 : (W6).cell? ⟨bx, 0, none⟩ = some (.int .i64 (1 : Int)) := CS3.out.xb.cell rfl
  have x1 : (W6).cell? ⟨bx, 1, none⟩ = some (.string (txt s)) := CS3.out.xb.cell rfl
  have x2 : (W6).cell? ⟨bx, 2, none⟩ = some (.int .i64 n) := CS3.out.xb.cell rfl
  have x3 : (W6).cell? ⟨bx, 3, none⟩ = some (.slice ka 0 kc) := CS3.out.xb.cell rfl
  have le : be < (W6).heap.size := Nat.lt_of_lt_of_le CS3.out.le CS3.out.lB
  have lx : bx < (W6).heap.size := Nat.lt_of_lt_of_le CS3.out.lx CS3.out.lB
  have s0 : (W6).cell? ⟨bs, 0, none⟩ = some (.int .i64 1) := Bs3.out.cell rfl
  have s1 : (W6).cell? ⟨bs, 1, none⟩ = some (.int .i64 m) := Bs3.out.cell rfl
  have s2 : (W6).cell? ⟨bs, 2, none⟩ = some (.int .i64 0) := Bs3.out.cell rfl
  have s3 : (W6).cell? ⟨bs, 3, none⟩ = some (.string ⟨#[]⟩) := Bs3.out.cell rfl
  have ls : bs < (W6).heap.size := Bs3.out.lt
  have sf0 : (W6).frozen? ⟨bs, 0, none⟩ = false := Bs3.out.frozen 0
  have sf1 : (W6).frozen? ⟨bs, 1, none⟩ = false := Bs3.out.frozen 1
  have sf2 : (W6).frozen? ⟨bs, 2, none⟩ = false := Bs3.out.frozen 2
  have sf3 : (W6).frozen? ⟨bs, 3, none⟩ = false := Bs3.out.frozen 3
  have y0 : (W6).cell? ⟨w5.heap.size, 0, none⟩ = some (.int .i64 op0) := By.out.cell rfl
  have y1 : (W6).cell? ⟨w5.heap.size, 1, none⟩ = some (.int .i64 0) := By.out.cell rfl
  have y2 : (W6).cell? ⟨w5.heap.size, 2, none⟩ = some (.int .i64 0) := By.out.cell rfl
  have y3 : (W6).cell? ⟨w5.heap.size, 3, none⟩ = some (.string ⟨#[]⟩) := By.out.cell rfl
  have ly : w5.heap.size < (W6).heap.size := By.out.lt
  have yf0 : (W6).frozen? ⟨w5.heap.size, 0, none⟩ = false := By.out.frozen 0
  have yf1 : (W6).frozen? ⟨w5.heap.size, 1, none⟩ = false := By.out.frozen 1
  have yf2 : (W6).frozen? ⟨w5.heap.size, 2, none⟩ = false := By.out.frozen 2
  have yf3 : (W6).frozen? ⟨w5.heap.size, 3, none⟩ = false := By.out.frozen 3
  have tokY : True := trivial
  go_upto_region 9 with (first
    | (have _t := tokY; go_at_call 55; go_must (refine (rins_int _).mono ?_); clear tokY _t
       rintro e w7 ⟨rfl, hb⟩
       go_must (have CS4 := Lib.hid (CS3.out.call hb))
       go_must (have Bs4 := Lib.hid (Bs3.out.below hb Bs3.out.lt))
       go_must (have By4 := Lib.hid (By.out.below hb By.out.lt))
       go_must (have hsw7 := hb.size)
       clear hb
       clear e0 x0 x1 x2 x3 le lx s0 s1 s2 s3 ls sf0 sf1 sf2 sf3 y0 y1 y2 y3 ly yf0 yf1 yf2 yf3
       go_must (have e0 : (w7).cell? ⟨be, 0, none⟩ = some (.slice (some ⟨b, off, none⟩) nl lc) := CS4.out.eb.cell rfl)
       go_must (have x0 : (w7).cell? ⟨bx, 0, none⟩ = some (.int .i64 (1 : Int)) := CS4.out.xb.cell rfl)
       go_must (have x1 : (w7).cell? ⟨bx, 1, none⟩ = some (.string (txt s)) := CS4.out.xb.cell rfl)
       go_must (have x2 : (w7).cell? ⟨bx, 2, none⟩ = some (.int .i64 n) := CS4.out.xb.cell rfl)
       go_must (have x3 : (w7).cell? ⟨bx, 3, none⟩ = some (.slice ka 0 kc) := CS4.out.xb.cell rfl)
       go_must (have le : be < (w7).heap.size := Nat.lt_of_lt_of_le CS4.out.le CS4.out.lB)
       go_must (have lx : bx < (w7).heap.size := Nat.lt_of_lt_of_le CS4.out.lx CS4.out.lB)
       go_must (have s0 : (w7).cell? ⟨bs, 0, none⟩ = some (.int .i64 1) := Bs4.out.cell rfl)
       go_must (have s1 : (w7).cell? ⟨bs, 1, none⟩ = some (.int .i64 m) := Bs4.out.cell rfl)
       go_must (have s2 : (w7).cell? ⟨bs, 2, none⟩ = some (.int .i64 0) := Bs4.out.cell rfl)
       go_must (have s3 : (w7).cell? ⟨bs, 3, none⟩ = some (.string ⟨#[]⟩) := Bs4.out.cell rfl)
       go_must (have ls : bs < (w7).heap.size := Bs4.out.lt)
       go_must (have sf0 : (w7).frozen? ⟨bs, 0, none⟩ = false := Bs4.out.frozen 0)
       go_must (have sf1 : (w7).frozen? ⟨bs, 1, none⟩ = false := Bs4.out.frozen 1)
       go_must (have sf2 : (w7).frozen? ⟨bs, 2, none⟩ = false := Bs4.out.frozen 2)
       go_must (have sf3 : (w7).frozen? ⟨bs, 3, none⟩ = false := Bs4.out.frozen 3)
       go_must (have y0 : (w7).cell? ⟨w5.heap.size, 0, none⟩ = some (.int .i64 op0) := By4.out.cell rfl)
       go_must (have y1 : (w7).cell? ⟨w5.heap.size, 1, none⟩ = some (.int .i64 0) := By4.out.cell rfl)
       go_must (have y2 : (w7).cell? ⟨w5.heap.size, 2, none⟩ = some (.int .i64 0) := By4.out.cell rfl)
       go_must (have y3 : (w7).cell? ⟨w5.heap.size, 3, none⟩ = some (.string ⟨#[]⟩) := By4.out.cell rfl)
       go_must (have ly : w5.heap.size < (w7).heap.size := By4.out.lt)
       go_must (have yf0 : (w7).frozen? ⟨w5.heap.size, 0, none⟩ = false := By4.out.frozen 0)
       go_must (have yf1 : (w7).frozen? ⟨w5.heap.size, 1, none⟩ = false := By4.out.frozen 1)
       go_must (have yf2 : (w7).frozen? ⟨w5.heap.size, 2, none⟩ = false := By4.out.frozen 2)
       go_must (have yf3 : (w7).frozen? ⟨w5.heap.size, 3, none⟩ = false := By4.out.frozen 3))
    | fail)
  generalize hW8 : World.setCell (World.setCell (World.setCell (World.setCell _ _ _) _ _) _ _) _ _ = W8
  have CS5 : Hid (CSt W W8 (.slice (some ⟨b, off, none⟩) nl lc) be bx #[.int .i64 (1 : Int), .string (txt s), .int .i64 n, .slice ka 0 kc] bs) := Lib.hid (by rw [← hW8]; exact ((((CS4.out.set_ (g := w5.heap.size) (by omega) _ _).set_ (g := w5.heap.size) (by omega) _ _).set_ (g := w5.heap.size) (by omega) _ _).set_ (g := w5.heap.size) (by omega) _ _))
  have Bs5 : Hid (Blk W8 bs 46 #[.int .i64 1, .int .i64 m, .int .i64 0, .string ⟨#[]⟩]) := Lib.hid (by rw [← hW8]; exact ((((Bs4.out.far (p := ⟨w5.heap.size, 0, none⟩) (by show _ ≠ w5.heap.size; omega) _).far (p := ⟨w5.heap.size, 1, none⟩) (by show _ ≠ w5.heap.size; omega) _).far (p := ⟨w5.heap.size, 2, none⟩) (by show _ ≠ w5.heap.size; omega) _).far (p := ⟨w5.heap.size, 3, none⟩) (by show _ ≠ w5.heap.size; omega) _))
  have By5 : Hid (Blk W8 w5.heap.size 46 #[.int .i64 2, .int .i64 0, .int .i64 0, .string ⟨#[]⟩]) := Lib.hid (by rw [← hW8]; have := ((((By4.out.set_ 0 (.int .i64 2)).set_ 1 (.int .i64 0)).set_ 2 (.int .i64 0)).set_ 3 (.string ⟨#[]⟩)); simpa using this)
  have hsW8 : w7.heap.size ≤ W8.heap.size := by rw [← hW8]; simp
  clear hW8
  clear e0 x0 x1 x2 x3 le lx s0 s1 s2 s3 ls sf0 sf1 sf2 sf3 y0 y1 y2 y3 ly yf0 yf1 yf2 yf3
  have e0 : (W8).cell? ⟨be, 0, none⟩ = some (.slice (some ⟨b, off, none⟩) nl lc) := CS5.out.eb.cell rfl
  have x0 : (W8).cell? ⟨bx, 0, none⟩ = some (.int .i64 (1 : Int)) := CS5.out.xb.cell rfl
  have x1 : (W8).cell? ⟨bx, 1, none⟩ = some (.string (txt s)) := CS5.out.xb.cell rfl
  have x2 : (W8).cell? ⟨bx, 2, none⟩ = some (.int .i64 n) := CS5.out.xb.cell rfl
  have x3 : (W8).cell? ⟨bx, 3, none⟩ = some (.slice ka 0 kc) := CS5.out.xb.cell rfl
  have le : be < (W8).heap.size := Nat.lt_of_lt_of_le CS5.out.le CS5.out.lB
  have lx : bx < (W8).heap.size := Nat.lt_of_lt_of_le CS5.out.lx CS5.out.lB
  have s0 : (W8).cell? ⟨bs, 0, none⟩ = some (.int .i64 1) := Bs5.out.cell rfl
  have s1 : (W8).cell? ⟨bs, 1, none⟩ = some (.int .i64 m) := Bs5.out.cell rfl
  have s2 : (W8).cell? ⟨bs, 2, none⟩ = some (.int .i64 0) := Bs5.out.cell rfl
  have s3 : (W8).cell? ⟨bs, 3, none⟩ = some (.string ⟨#[]⟩) := Bs5.out.cell rfl
  have ls : bs < (W8).heap.size := Bs5.out.lt
  have sf0 : (W8).frozen? ⟨bs, 0, none⟩ = false := Bs5.out.frozen 0
  have sf1 : (W8).frozen? ⟨bs, 1, none⟩ = false := Bs5.out.frozen 1
  have sf2 : (W8).frozen? ⟨bs, 2, none⟩ = false := Bs5.out.frozen 2
  have sf3 : (W8).frozen? ⟨bs, 3, none⟩ = false := Bs5.out.frozen 3
  have y0 : (W8).cell? ⟨w5.heap.size, 0, none⟩ = some (.int .i64 2) := By5.out.cell rfl
  have y1 : (W8).cell? ⟨w5.heap.size, 1, none⟩ = some (.int .i64 0) := By5.out.cell rfl
  have y2 : (W8).cell? ⟨w5.heap.size, 2, none⟩ = some (.int .i64 0) := By5.out.cell rfl
  have y3 : (W8).cell? ⟨w5.heap.size, 3, none⟩ = some (.string ⟨#[]⟩) := By5.out.cell rfl
  have ly : w5.heap.size < (W8).heap.size := By5.out.lt
  have yf0 : (W8).frozen? ⟨w5.heap.size, 0, none⟩ = false := By5.out.frozen 0
  have yf1 : (W8).frozen? ⟨w5.heap.size, 1, none⟩ = false := By5.out.frozen 1
  have yf2 : (W8).frozen? ⟨w5.heap.size, 2, none⟩ = false := By5.out.frozen 2
  have yf3 : (W8).frozen? ⟨w5.heap.size, 3, none⟩ = false := By5.out.frozen 3
  go_upto_region 19 with fail
  generalize hW9 : World.setCell _ _ _ = W9
  have CS6 : Hid (CSt W W9 (.slice (some ⟨b, off, none⟩) nl lc) be bx #[.int .i64 (1 : Int), .string (txt s), .int .i64 n, .slice ka 0 kc] bs) := Lib.hid (by rw [← hW9]; exact (CS5.out.set_ (g := w5.heap.size) (by omega) _ _))
  have Bs6 : Hid (Blk W9 bs 46 #[.int .i64 1, .int .i64 m, .int .i64 0, .string ⟨#[]⟩]) := Lib.hid (by rw [← hW9]; exact (Bs5.out.far (p := ⟨w5.heap.size, 2, none⟩) (by show _ ≠ w5.heap.size; omega) _))
  have By6 : Hid (Blk W9 w5.heap.size 46 #[.int .i64 2, .int .i64 0, .int .i64 n, .string ⟨#[]⟩]) := Lib.hid (by rw [← hW9]; have := (By5.out.set_ 2 (.int .i64 n)); simpa using this)
  have hsW9 : W8.heap.size ≤ W9.heap.size := by rw [← hW9]; simp
  clear hW9
  clear e0 x0 x1 x2 x3 le lx s0 s1 s2 s3 ls sf0 sf1 sf2 sf3 y0 y1 y2 y3 ly yf0 yf1 yf2 yf3
  have e0 : (W9).cell? ⟨be, 0, none⟩ = some (.slice (some ⟨b, off, none⟩) nl lc) := CS6.out.eb.cell rfl
  have x0 : (W9).cell? ⟨bx, 0, none⟩ = some (.int .i64 (1 : Int)) := CS6.out.xb.cell rfl
  have x1 : (W9).cell? ⟨bx, 1, none⟩ = some (.string (txt s)) := CS6.out.xb.cell rfl
  have x2 : (W9).cell? ⟨bx, 2, none⟩ = some (.int .i64 n) := CS6.out.xb.cell rfl
  have x3 : (W9).cell? ⟨bx, 3, none⟩ = some (.slice ka 0 kc) := CS6.out.xb.cell rfl
  have le : be < (W9).heap.size := Nat.lt_of_lt_of_le CS6.out.le CS6.out.lB
  have lx : bx < (W9).heap.size := Nat.lt_of_lt_of_le CS6.out.lx CS6.out.lB
  have s0 : (W9).cell? ⟨bs, 0, none⟩ = some (.int .i64 1) := Bs6.out.cell rfl
  have s1 : (W9).cell? ⟨bs, 1, none⟩ = some (.int .i64 m) := Bs6.out.cell rfl
  have s2 : (W9).cell? ⟨bs, 2, none⟩ = some (.int .i64 0) := Bs6.out.cell rfl
  have s3 : (W9).cell? ⟨bs, 3, none⟩ = some (.string ⟨#[]⟩) := Bs6.out.cell rfl
  have ls : bs < (W9).heap.size := Bs6.out.lt
  have sf0 : (W9).frozen? ⟨bs, 0, none⟩ = false := Bs6.out.frozen 0
  have sf1 : (W9).frozen? ⟨bs, 1, none⟩ = false := Bs6.out.frozen 1
  have sf2 : (W9).frozen? ⟨bs, 2, none⟩ = false := Bs6.out.frozen 2
  have sf3 : (W9).frozen? ⟨bs, 3, none⟩ = false := Bs6.out.frozen 3
  have y0 : (W9).cell? ⟨w5.heap.size, 0, none⟩ = some (.int .i64 2) := By6.out.cell rfl
  have y1 : (W9).cell? ⟨w5.heap.size, 1, none⟩ = some (.int .i64 0) := By6.out.cell rfl
  have y2 : (W9).cell? ⟨w5.heap.size, 2, none⟩ = some (.int .i64 n) := By6.out.cell rfl
  have y3 : (W9).cell? ⟨w5.heap.size, 3, none⟩ = some (.string ⟨#[]⟩) := By6.out.cell rfl
  have ly : w5.heap.size < (W9).heap.size := By6.out.lt
  have yf0 : (W9).frozen? ⟨w5.heap.size, 0, none⟩ = false := By6.out.frozen 0
  have yf1 : (W9).frozen? ⟨w5.heap.size, 1, none⟩ = false := By6.out.frozen 1
  have yf2 : (W9).frozen? ⟨w5.heap.size, 2, none⟩ = false := By6.out.frozen 2
  have yf3 : (W9).frozen? ⟨w5.heap.size, 3, none⟩ = false := By6.out.frozen 3
  go_wp2_with fail
  go_ret
  rw [show cR (f + 1) (.node 1 s n []) vs m = [insI 1 m, ⟨2, 0, n, ⟨#[]⟩⟩] from rfl]
  exact rcodeK_of (Own1.new2 (w := W9) (x := [.int .i64 1, .int .i64 m, .int .i64 0, .string ⟨#[]⟩]) (x' := [.int .i64 2, .int .i64 0, .int .i64 n, .string ⟨#[]⟩]) rfl (by omega) rfl rfl ⟨rfl, ins_ok (by omega) (by omega) (by omega) (by omega) (by omega) (by omega) nil_size⟩ ⟨rfl, ins_ok (by omega) (by omega) (by omega) (by omega) HND.out.2.2.1 HND.out.2.2.2 nil_size⟩) (CS6.out.bel.alloc (by omega) _)
set_option maxRecDepth 100000 in
set_option maxHeartbeats 8000000 in
theorem rcode_text {l : List ND} {lv : Value} {W0 : World} {f p : Nat} {s : List Nat} {n m : Int} {vs : List (List Nat)} {W : World} (H : RPre l lv W0 (f + 1) (.node 2 s n []) p vs m W) : Calls Tryd.prog 30 #[.agg #[lv], .int .i64 (p : Int), .int .i64 m] W (RCodeK W (cR (f + 1) (.node 2 s n []) vs m)) := by
  obtain ⟨hd, hks⟩ := stands_node H.st
  obtain ⟨la, lc, rfl, _, _⟩ := H.hs.form
  have hpl := (List.getElem?_eq_some_iff.1 hd).1
  obtain ⟨nl, hnl⟩ : ∃ z, l.length = z := ⟨_, rfl⟩
  rw [hnl] at H hpl ⊢
  try rw [hnl] at ih
  have hB6 := H.hw.alloc H.hw.size (.cells #[.slice la nl lc] 38)
  have hhs := H.hs
  obtain ⟨b, off, x, rfl, hbB, hxl, ⟨kv, rfl, hkv⟩, hx⟩ := (hhs.below hB6).at_ hd
  obtain ⟨ka, kc, rfl, _, _⟩ := hkv.form
  simp only [List.length_map, places_len] at hkv hx
  simp only [List.length_cons, List.length_nil, Nat.zero_add, Nat.reduceAdd] at hkv hx
  have x0 := hx 0 _ rfl
  have x1 := hx 1 _ rfl
  have x2 := hx 2 _ rfl
  have x3 := hx 3 _ rfl
  simp only [Nat.add_zero] at x0
  have p0 : (0 : Int) ≤ (p : Int) := Int.natCast_nonneg _
  have p1 : (p : Int) < (nl : Int) := by omega
  have HH := Lib.hid H
  have HNL := Lib.hid hnl
  have HKV := Lib.hid hkv
  have m1 := H.m1
  have m2 : m ≤ 1000 := by have := H.mf; omega
  obtain ⟨jI, hi, hz, hsz, hby⟩ := info_parts info_Ins
  have I := Lib.hid (And.intro hi (And.intro hz (And.intro hsz hby)))
  clear hi hz hsz hby H hd hkv hx hxl hks hnl hhs hB6
  go_enter Tryd.func30, Tryd.ntmps30
  go_upto_region 1 with fail
  have e0 : (W.alloc (.cells #[(.slice (some ⟨b, off, none⟩) nl lc)] 38)).cell? ⟨W.heap.size, 0, none⟩ = some (.slice (some ⟨b, off, none⟩) nl lc) := (Blk.new W 38 #[(.slice (some ⟨b, off, none⟩) nl lc)]).cell rfl
  have lw0 : W.heap.size < (W.alloc (.cells #[(.slice (some ⟨b, off, none⟩) nl lc)] 38)).heap.size := (Blk.new W 38 #[(.slice (some ⟨b, off, none⟩) nl lc)]).lt
  generalize hW1 : W.alloc (.cells #[(.slice (some ⟨b, off, none⟩) nl lc)] 38) = W1 at *
  have HW1 := Lib.hid hW1
  clear hW1
  go_upto_region 4 with (first
    | (go_at_call 55; go_must (refine (rins_step _).mono ?_); rintro e w2 ⟨rfl, hb⟩; go_must (have HB := Lib.hid (CSt.make HW1.out.symm hb)); clear hb)
    | fail)
  clear x0 x1 x2 x3 e0 lw0
  have CS := Lib.hid (HB.out.alloc (.cells #[.int .i64 1, .int .i64 m, .int .i64 0, .string ⟨#[]⟩] 46))
  have SK := Lib.hid (Blk.new w2 46 #[.int .i64 1, .int .i64 m, .int .i64 0, .string ⟨#[]⟩])
  generalize hW3 : w2.alloc (.cells #[.int .i64 1, .int .i64 m, .int .i64 0, .string ⟨#[]⟩] 46) = W3 at *
  obtain ⟨be, hbe⟩ : ∃ z, W.heap.size = z := ⟨_, rfl⟩
  obtain ⟨bx, hbx⟩ : ∃ z, W1.heap.size = z := ⟨_, rfl⟩
  obtain ⟨bs, hbs⟩ : ∃ z, w2.heap.size = z := ⟨_, rfl⟩
  rw [hbe] at CS
  rw [hbx, hbs] at CS
  rw [hbs] at SK
  first | rw [hbe, hbx, hbs] | rw [hbx, hbe, hbs]
  clear HB hW3 hbx hbs HW1
  have e0 : (W3).cell? ⟨be, 0, none⟩ = some (.slice (some ⟨b, off, none⟩) nl lc) := CS.out.eb.cell rfl
  have x0 : (W3).cell? ⟨bx, 0, none⟩ = some (.int .i64 (2 : Int)) := CS.out.xb.cell rfl
  have x1 : (W3).cell? ⟨bx, 1, none⟩ = some (.string (txt s)) := CS.out.xb.cell rfl
  have x2 : (W3).cell? ⟨bx, 2, none⟩ = some (.int .i64 n) := CS.out.xb.cell rfl
  have x3 : (W3).cell? ⟨bx, 3, none⟩ = some (.slice ka 0 kc) := CS.out.xb.cell rfl
  have le : be < (W3).heap.size := Nat.lt_of_lt_of_le CS.out.le CS.out.lB
  have lx : bx < (W3).heap.size := Nat.lt_of_lt_of_le CS.out.lx CS.out.lB
  have hs0 : bs ≤ W3.heap.size := CS.out.lB
  have hwl : W.heap.size ≤ bs := CS.out.wl
  have HND := Lib.hid HH.out.good.1
  have hsS : bs < W3.heap.size := SK.out.lt
  have hp : p < l.length := by rw [HNL.out]; omega
  have WK : Hid (∀ w, Calls Tryd.prog 56 #[.int .i64 2] w fun e w' => e = .returned (.string (wordK 2)) ∧ Quiet w w') := Lib.hid (fun w => rkind_any 2 (by omega) w)
  obtain ⟨wk, hwk⟩ : ∃ z, wordK 2 = z := ⟨_, rfl⟩
  have HWK := Lib.hid hwk
  rw [hwk] at WK
  clear hwk
  clear e0 x0 x1 x2 x3 le lx
  have e0 : (W3).cell? ⟨be, 0, none⟩ = some (.slice (some ⟨b, off, none⟩) nl lc) := CS.out.eb.cell rfl
  have x0 : (W3).cell? ⟨bx, 0, none⟩ = some (.int .i64 (2 : Int)) := CS.out.xb.cell rfl
  have x1 : (W3).cell? ⟨bx, 1, none⟩ = some (.string (txt s)) := CS.out.xb.cell rfl
  have x2 : (W3).cell? ⟨bx, 2, none⟩ = some (.int .i64 n) := CS.out.xb.cell rfl
  have x3 : (W3).cell? ⟨bx, 3, none⟩ = some (.slice ka 0 kc) := CS.out.xb.cell rfl
  have le : be < (W3).heap.size := Nat.lt_of_lt_of_le CS.out.le CS.out.lB
  have lx : bx < (W3).heap.size := Nat.lt_of_lt_of_le CS.out.lx CS.out.lB
  have s0 : (W3).cell? ⟨bs, 0, none⟩ = some (.int .i64 1) := SK.out.cell rfl
  have s1 : (W3).cell? ⟨bs, 1, none⟩ = some (.int .i64 m) := SK.out.cell rfl
  have s2 : (W3).cell? ⟨bs, 2, none⟩ = some (.int .i64 0) := SK.out.cell rfl
  have s3 : (W3).cell? ⟨bs, 3, none⟩ = some (.string ⟨#[]⟩) := SK.out.cell rfl
  have ls : bs < (W3).heap.size := SK.out.lt
  have sf0 : (W3).frozen? ⟨bs, 0, none⟩ = false := SK.out.frozen 0
  have sf1 : (W3).frozen? ⟨bs, 1, none⟩ = false := SK.out.frozen 1
  have sf2 : (W3).frozen? ⟨bs, 2, none⟩ = false := SK.out.frozen 2
  have sf3 : (W3).frozen? ⟨bs, 3, none⟩ = false := SK.out.frozen 3
  have tokW : True := trivial
  have tokI : True := trivial
  go_upto_region 6 with (first
    | (have _t := tokW; go_at_call 56; go_must (refine (WK.out _).mono ?_); clear tokW _t
       rintro e w' ⟨rfl, nq, rfl⟩
       go_must (have CS1 := Lib.hid (CS.out.drewN nq))
       go_must (have Bs1 := Lib.hid (SK.out.drwN nq))
       go_must (have hsW3q : W3.heap.size ≤ (W3.drewN nq).heap.size := Nat.le_refl _)
       clear e0 x0 x1 x2 x3 le lx s0 s1 s2 s3 ls sf0 sf1 sf2 sf3
       go_must (have e0 : ((W3.drewN nq)).cell? ⟨be, 0, none⟩ = some (.slice (some ⟨b, off, none⟩) nl lc) := CS1.out.eb.cell rfl)
       go_must (have x0 : ((W3.drewN nq)).cell? ⟨bx, 0, none⟩ = some (.int .i64 (2 : Int)) := CS1.out.xb.cell rfl)
       go_must (have x1 : ((W3.drewN nq)).cell? ⟨bx, 1, none⟩ = some (.string (txt s)) := CS1.out.xb.cell rfl)
       go_must (have x2 : ((W3.drewN nq)).cell? ⟨bx, 2, none⟩ = some (.int .i64 n) := CS1.out.xb.cell rfl)
       go_must (have x3 : ((W3.drewN nq)).cell? ⟨bx, 3, none⟩ = some (.slice ka 0 kc) := CS1.out.xb.cell rfl)
       go_must (have le : be < ((W3.drewN nq)).heap.size := Nat.lt_of_lt_of_le CS1.out.le CS1.out.lB)
       go_must (have lx : bx < ((W3.drewN nq)).heap.size := Nat.lt_of_lt_of_le CS1.out.lx CS1.out.lB)
       go_must (have s0 : ((W3.drewN nq)).cell? ⟨bs, 0, none⟩ = some (.int .i64 1) := Bs1.out.cell rfl)
       go_must (have s1 : ((W3.drewN nq)).cell? ⟨bs, 1, none⟩ = some (.int .i64 m) := Bs1.out.cell rfl)
       go_must (have s2 : ((W3.drewN nq)).cell? ⟨bs, 2, none⟩ = some (.int .i64 0) := Bs1.out.cell rfl)
       go_must (have s3 : ((W3.drewN nq)).cell? ⟨bs, 3, none⟩ = some (.string ⟨#[]⟩) := Bs1.out.cell rfl)
       go_must (have ls : bs < ((W3.drewN nq)).heap.size := Bs1.out.lt)
       go_must (have sf0 : ((W3.drewN nq)).frozen? ⟨bs, 0, none⟩ = false := Bs1.out.frozen 0)
       go_must (have sf1 : ((W3.drewN nq)).frozen? ⟨bs, 1, none⟩ = false := Bs1.out.frozen 1)
       go_must (have sf2 : ((W3.drewN nq)).frozen? ⟨bs, 2, none⟩ = false := Bs1.out.frozen 2)
       go_must (have sf3 : ((W3.drewN nq)).frozen? ⟨bs, 3, none⟩ = false := Bs1.out.frozen 3))
    | (have _t := tokI; go_at_call 55; go_must (refine (rins_any wk _).mono ?_); clear tokI _t
       rintro e w5 ⟨rfl, hb⟩
       go_must (have CS2 := Lib.hid (CS1.out.call hb))
       go_must (have Bs2 := Lib.hid (Bs1.out.below hb Bs1.out.lt))
       go_must (have hsw5 := hb.size)
       clear hb
       clear e0 x0 x1 x2 x3 le lx s0 s1 s2 s3 ls sf0 sf1 sf2 sf3
       go_must (have e0 : (w5).cell? ⟨be, 0, none⟩ = some (.slice (some ⟨b, off, none⟩) nl lc) := CS2.out.eb.cell rfl)
       go_must (have x0 : (w5).cell? ⟨bx, 0, none⟩ = some (.int .i64 (2 : Int)) := CS2.out.xb.cell rfl)
       go_must (have x1 : (w5).cell? ⟨bx, 1, none⟩ = some (.string (txt s)) := CS2.out.xb.cell rfl)
       go_must (have x2 : (w5).cell? ⟨bx, 2, none⟩ = some (.int .i64 n) := CS2.out.xb.cell rfl)
       go_must (have x3 : (w5).cell? ⟨bx, 3, none⟩ = some (.slice ka 0 kc) := CS2.out.xb.cell rfl)
       go_must (have le : be < (w5).heap.size := Nat.lt_of_lt_of_le CS2.out.le CS2.out.lB)
       go_must (have lx : bx < (w5).heap.size := Nat.lt_of_lt_of_le CS2.out.lx CS2.out.lB)
       go_must (have s0 : (w5).cell? ⟨bs, 0, none⟩ = some (.int .i64 1) := Bs2.out.cell rfl)
       go_must (have s1 : (w5).cell? ⟨bs, 1, none⟩ = some (.int .i64 m) := Bs2.out.cell rfl)
       go_must (have s2 : (w5).cell? ⟨bs, 2, none⟩ = some (.int .i64 0) := Bs2.out.cell rfl)
       go_must (have s3 : (w5).cell? ⟨bs, 3, none⟩ = some (.string ⟨#[]⟩) := Bs2.out.cell rfl)
       go_must (have ls : bs < (w5).heap.size := Bs2.out.lt)
       go_must (have sf0 : (w5).frozen? ⟨bs, 0, none⟩ = false := Bs2.out.frozen 0)
       go_must (have sf1 : (w5).frozen? ⟨bs, 1, none⟩ = false := Bs2.out.frozen 1)
       go_must (have sf2 : (w5).frozen? ⟨bs, 2, none⟩ = false := Bs2.out.frozen 2)
       go_must (have sf3 : (w5).frozen? ⟨bs, 3, none⟩ = false := Bs2.out.frozen 3))
    | fail)
  obtain ⟨op0, hop0⟩ : ∃ z, opR wk = z := ⟨_, rfl⟩
  rw [hop0]
  have HOP := Lib.hid hop0
  clear hop0
  have CS3 := Lib.hid (CS2.out.alloc (.cells #[.int .i64 op0, .int .i64 0, .int .i64 0, .string ⟨#[]⟩] 46))
  have Bs3 := Lib.hid (Bs2.out.alloc (.cells #[.int .i64 op0, .int .i64 0, .int .i64 0, .string ⟨#[]⟩] 46))
  have By := Lib.hid (Blk.new w5 46 #[.int .i64 op0, .int .i64 0, .int .i64 0, .string ⟨#[]⟩])
  have hsW6 : w5.heap.size < (w5.alloc (.cells #[.int .i64 op0, .int .i64 0, .int .i64 0, .string ⟨#[]⟩] 46)).heap.size := by simp
  generalize w5.alloc (.cells #[.int .i64 op0, .int .i64 0, .int .i64 0, .string ⟨#[]⟩] 46) = W6 at *
  clear e0 x0 x1 x2 x3 le lx s0 s1 s2 s3 ls sf0 sf1 sf2 sf3
  have e0 : (W6).cell? ⟨be, 0, none⟩ = some (.slice (some ⟨b, off, none⟩) nl lc) := CS3.out.eb.cell rfl
  have x0 : (W6).cell? ⟨bx, 0, none⟩ = some (.int .i64 (2 : Int)) := CS3.out.xb.cell rfl
  have x1 : (W6).cell? ⟨bx, 1, none⟩ = some (.string (txt s)) := CS3.out.xb.cell rfl
  have x2 : (W6).cell? ⟨bx, 2, none⟩ = some (.int .i64 n) := CS3.out.xb.cell rfl
  have x3 : (W6).cell? ⟨bx, 3, none⟩ = some (.slice ka 0 kc) := CS3.out.xb.cell rfl
  have le : be < (W6).heap.size := Nat.lt_of_lt_of_le CS3.out.le CS3.out.lB
  have lx : bx < (W6).heap.size := Nat.lt_of_lt_of_le CS3.out.lx CS3.out.lB
  have s0 : (W6).cell? ⟨bs, 0, none⟩ = some (.int .i64 1) := Bs3.out.cell rfl
  have s1 : (W6).cell? ⟨bs, 1, none⟩ = some (.int .i64 m) := Bs3.out.cell rfl
  have s2 : (W6).cell? ⟨bs, 2, none⟩ = some (.int .i64 0) := Bs3.out.cell rfl
  have s3 : (W6).cell? ⟨bs, 3, none⟩ = some (.string ⟨#[]⟩) := Bs3.out.cell rfl
  have ls : bs < (W6).heap.size := Bs3.out.lt
  have sf0 : (W6).frozen? ⟨bs, 0, none⟩ = false := Bs3.out.frozen 0
  have sf1 : (W6).frozen? ⟨bs, 1, none⟩ = false := Bs3.out.frozen 1
  have sf2 : (W6).frozen? ⟨bs, 2, none⟩ = false := Bs3.out.frozen 2
  have sf3 : (W6).frozen? ⟨bs, 3, none⟩ = false := Bs3.out.frozen 3
  have y0 : (W6).cell? ⟨w5.heap.size, 0, none⟩ = some (.int .i64 op0) := By.out.cell rfl
  have y1 : (W6).cell? ⟨w5.heap.size, 1, none⟩ = some (.int .i64 0) := By.out.cell rfl
  have y2 : (W6).cell? ⟨w5.heap.size, 2, none⟩ = some (.int .i64 0) := By.out.cell rfl
  have y3 : (W6).cell? ⟨w5.heap.size, 3, none⟩ = some (.string ⟨#[]⟩) := By.out.cell rfl
  have ly : w5.heap.size < (W6).heap.size := By.out.lt
  have yf0 : (W6).frozen? ⟨w5.heap.size, 0, none⟩ = false := By.out.frozen 0
  have yf1 : (W6).frozen? ⟨w5.heap.size, 1, none⟩ = false := By.out.frozen 1
  have yf2 : (W6).frozen? ⟨w5.heap.size, 2, none⟩ = false := By.out.frozen 2
  have yf3 : (W6).frozen? ⟨w5.heap.size, 3, none⟩ = false := By.out.frozen 3
  have tokY : True := trivial
  go_upto_region 12 with (first
    | (have _t := tokY; go_at_call 55; go_must (refine (rins_text _).mono ?_); clear tokY _t
       rintro e w7 ⟨rfl, hb⟩
       go_must (have CS4 := Lib.hid (CS3.out.call hb))
       go_must (have Bs4 := Lib.hid (Bs3.out.below hb Bs3.out.lt))
       go_must (have By4 := Lib.hid (By.out.below hb By.out.lt))
       go_must (have hsw7 := hb.size)
       clear hb
       clear e0 x0 x1 x2 x3 le lx s0 s1 s2 s3 ls sf0 sf1 sf2 sf3 y0 y1 y2 y3 ly yf0 yf1 yf2 yf3
       go_must (have e0 : (w7).cell? ⟨be, 0, none⟩ = some (.slice (some ⟨b, off, none⟩) nl lc) := CS4.out.eb.cell rfl)
       go_must (have x0 : (w7).cell? ⟨bx, 0, none⟩ = some (.int .i64 (2 : Int)) := CS4.out.xb.cell rfl)
       go_must (have x1 : (w7).cell? ⟨bx, 1, none⟩ = some (.string (txt s)) := CS4.out.xb.cell rfl)
       go_must (have x2 : (w7).cell? ⟨bx, 2, none⟩ = some (.int .i64 n) := CS4.out.xb.cell rfl)
       go_must (have x3 : (w7).cell? ⟨bx, 3, none⟩ = some (.slice ka 0 kc) := CS4.out.xb.cell rfl)
       go_must (have le : be < (w7).heap.size := Nat.lt_of_lt_of_le CS4.out.le CS4.out.lB)
       go_must (have lx : bx < (w7).heap.size := Nat.lt_of_lt_of_le CS4.out.lx CS4.out.lB)
       go_must (have s0 : (w7).cell? ⟨bs, 0, none⟩ = some (.int .i64 1) := Bs4.out.cell rfl)
       go_must (have s1 : (w7).cell? ⟨bs, 1, none⟩ = some (.int .i64 m) := Bs4.out.cell rfl)
       go_must (have s2 : (w7).cell? ⟨bs, 2, none⟩ = some (.int .i64 0) := Bs4.out.cell rfl)
       go_must (have s3 : (w7).cell? ⟨bs, 3, none⟩ = some (.string ⟨#[]⟩) := Bs4.out.cell rfl)
       go_must (have ls : bs < (w7).heap.size := Bs4.out.lt)
       go_must (have sf0 : (w7).frozen? ⟨bs, 0, none⟩ = false := Bs4.out.frozen 0)
       go_must (have sf1 : (w7).frozen? ⟨bs, 1, none⟩ = false := Bs4.out.frozen 1)
       go_must (have sf2 : (w7).frozen? ⟨bs, 2, none⟩ = false := Bs4.out.frozen 2)
       go_must (have sf3 : (w7).frozen? ⟨bs, 3, none⟩ = false := Bs4.out.frozen 3)
       go_must (have y0 : (w7).cell? ⟨w5.heap.size, 0, none⟩ = some (.int .i64 op0) := By4.out.cell rfl)
       go_must (have y1 : (w7).cell? ⟨w5.heap.size, 1, none⟩ = some (.int .i64 0) := By4.out.cell rfl)
       go_must (have y2 : (w7).cell? ⟨w5.heap.size, 2, none⟩ = some (.int .i64 0) := By4.out.cell rfl)
       go_must (have y3 : (w7).cell? ⟨w5.heap.size, 3, none⟩ = some (.string ⟨#[]⟩) := By4.out.cell rfl)
       go_must (have ly : w5.heap.size < (w7).heap.size := By4.out.lt)
       go_must (have yf0 : (w7).frozen? ⟨w5.heap.size, 0, none⟩ = false := By4.out.frozen 0)
       go_must (have yf1 : (w7).frozen? ⟨w5.heap.size, 1, none⟩ = false := By4.out.frozen 1)
       go_must (have yf2 : (w7).frozen? ⟨w5.heap.size, 2, none⟩ = false := By4.out.frozen 2)
       go_must (have yf3 : (w7).frozen? ⟨w5.heap.size, 3, none⟩ = false := By4.out.frozen 3))
    | fail)
  generalize hW8 : World.setCell (World.setCell (World.setCell (World.setCell _ _ _) _ _) _ _) _ _ = W8
  have CS5 : Hid (CSt W W8 (.slice (some ⟨b, off, none⟩) nl lc) be bx #[.int .i64 (2 : Int), .string (txt s), .int .i64 n, .slice ka 0 kc] bs) := Lib.hid (by rw [← hW8]; exact ((((CS4.out.set_ (g := w5.heap.size) (by omega) _ _).set_ (g := w5.heap.size) (by omega) _ _).set_ (g := w5.heap.size) (by omega) _ _).set_ (g := w5.heap.size) (by omega) _ _))
  have Bs5 : Hid (Blk W8 bs 46 #[.int .i64 1, .int .i64 m, .int .i64 0, .string ⟨#[]⟩]) := Lib.hid (by rw [← hW8]; exact ((((Bs4.out.far (p := ⟨w5.heap.size, 0, none⟩) (by show _ ≠ w5.heap.size; omega) _).far (p := ⟨w5.heap.size, 1, none⟩) (by show _ ≠ w5.heap.size; omega) _).far (p := ⟨w5.heap.size, 2, none⟩) (by show _ ≠ w5.heap.size; omega) _).far (p := ⟨w5.heap.size, 3, none⟩) (by show _ ≠ w5.heap.size; omega) _))
  have By5 : Hid (Blk W8 w5.heap.size 46 #[.int .i64 3, .int .i64 0, .int .i64 0, .string ⟨#[]⟩]) := Lib.hid (by rw [← hW8]; have := ((((By4.out.set_ 0 (.int .i64 3)).set_ 1 (.int .i64 0)).set_ 2 (.int .i64 0)).set_ 3 (.string ⟨#[]⟩)); simpa using this)
  have hsW8 : w7.heap.size ≤ W8.heap.size := by rw [← hW8]; simp
  clear hW8
  clear e0 x0 x1 x2 x3 le lx s0 s1 s2 s3 ls sf0 sf1 sf2 sf3 y0 y1 y2 y3 ly yf0 yf1 yf2 yf3
  have e0 : (W8).cell? ⟨be, 0, none⟩ = some (.slice (some ⟨b, off, none⟩) nl lc) := CS5.out.eb.cell rfl
  have x0 : (W8).cell? ⟨bx, 0, none⟩ = some (.int .i64 (2 : Int)) := CS5.out.xb.cell rfl
  have x1 : (W8).cell? ⟨bx, 1, none⟩ = some (.string (txt s)) := CS5.out.xb.cell rfl
  have x2 : (W8).cell? ⟨bx, 2, none⟩ = some (.int .i64 n) := CS5.out.xb.cell rfl
  have x3 : (W8).cell? ⟨bx, 3, none⟩ = some (.slice ka 0 kc) := CS5.out.xb.cell rfl
  have le : be < (W8).heap.size := Nat.lt_of_lt_of_le CS5.out.le CS5.out.lB
  have lx : bx < (W8).heap.size := Nat.lt_of_lt_of_le CS5.out.lx CS5.out.lB
  have s0 : (W8).cell? ⟨bs, 0, none⟩ = some (.int .i64 1) := Bs5.out.cell rfl
  have s1 : (W8).cell? ⟨bs, 1, none⟩ = some (.int .i64 m) := Bs5.out.cell rfl
  have s2 : (W8).cell? ⟨bs, 2, none⟩ = some (.int .i64 0) := Bs5.out.cell rfl
  have s3 : (W8).cell? ⟨bs, 3, none⟩ = some (.string ⟨#[]⟩) := Bs5.out.cell rfl
  have ls : bs < (W8).heap.size := Bs5.out.lt
  have sf0 : (W8).frozen? ⟨bs, 0, none⟩ = false := Bs5.out.frozen 0
  have sf1 : (W8).frozen? ⟨bs, 1, none⟩ = false := Bs5.out.frozen 1
  have sf2 : (W8).frozen? ⟨bs, 2, none⟩ = false := Bs5.out.frozen 2
  have sf3 : (W8).frozen? ⟨bs, 3, none⟩ = false := Bs5.out.frozen 3
  have y0 : (W8).cell? ⟨w5.heap.size, 0, none⟩ = some (.int .i64 3) := By5.out.cell rfl
  have y1 : (W8).cell? ⟨w5.heap.size, 1, none⟩ = some (.int .i64 0) := By5.out.cell rfl
  have y2 : (W8).cell? ⟨w5.heap.size, 2, none⟩ = some (.int .i64 0) := By5.out.cell rfl
  have y3 : (W8).cell? ⟨w5.heap.size, 3, none⟩ = some (.string ⟨#[]⟩) := By5.out.cell rfl
  have ly : w5.heap.size < (W8).heap.size := By5.out.lt
  have yf0 : (W8).frozen? ⟨w5.heap.size, 0, none⟩ = false := By5.out.frozen 0
  have yf1 : (W8).frozen? ⟨w5.heap.size, 1, none⟩ = false := By5.out.frozen 1
  have yf2 : (W8).frozen? ⟨w5.heap.size, 2, none⟩ = false := By5.out.frozen 2
  have yf3 : (W8).frozen? ⟨w5.heap.size, 3, none⟩ = false := By5.out.frozen 3
  go_upto_region 19 with fail
  generalize hW9 : World.setCell _ _ _ = W9
  have CS6 : Hid (CSt W W9 (.slice (some ⟨b, off, none⟩) nl lc) be bx #[.int .i64 (2 : Int), .string (txt s), .int .i64 n, .slice ka 0 kc] bs) := Lib.hid (by rw [← hW9]; exact (CS5.out.set_ (g := w5.heap.size) (by omega) _ _))
  have Bs6 : Hid (Blk W9 bs 46 #[.int .i64 1, .int .i64 m, .int .i64 0, .string ⟨#[]⟩]) := Lib.hid (by rw [← hW9]; exact (Bs5.out.far (p := ⟨w5.heap.size, 3, none⟩) (by show _ ≠ w5.heap.size; omega) _))
  have By6 : Hid (Blk W9 w5.heap.size 46 #[.int .i64 3, .int .i64 0, .int .i64 0, .string (txt s)]) := Lib.hid (by rw [← hW9]; have := (By5.out.set_ 3 (.string (txt s))); simpa using this)
  have hsW9 : W8.heap.size ≤ W9.heap.size := by rw [← hW9]; simp
  clear hW9
  clear e0 x0 x1 x2 x3 le lx s0 s1 s2 s3 ls sf0 sf1 sf2 sf3 y0 y1 y2 y3 ly yf0 yf1 yf2 yf3
  have e0 : (W9).cell? ⟨be, 0, none⟩ = some (.slice (some ⟨b, off, none⟩) nl lc) := CS6.out.eb.cell rfl
  have x0 : (W9).cell? ⟨bx, 0, none⟩ = some (.int .i64 (2 : Int)) := CS6.out.xb.cell rfl
  have x1 : (W9).cell? ⟨bx, 1, none⟩ = some (.string (txt s)) := CS6.out.xb.cell rfl
  have x2 : (W9).cell? ⟨bx, 2, none⟩ = some (.int .i64 n) := CS6.out.xb.cell rfl
  have x3 : (W9).cell? ⟨bx, 3, none⟩ = some (.slice ka 0 kc) := CS6.out.xb.cell rfl
  have le : be < (W9).heap.size := Nat.lt_of_lt_of_le CS6.out.le CS6.out.lB
  have lx : bx < (W9).heap.size := Nat.lt_of_lt_of_le CS6.out.lx CS6.out.lB
  have s0 : (W9).cell? ⟨bs, 0, none⟩ = some (.int .i64 1) := Bs6.out.cell rfl
  have s1 : (W9).cell? ⟨bs, 1, none⟩ = some (.int .i64 m) := Bs6.out.cell rfl
  have s2 : (W9).cell? ⟨bs, 2, none⟩ = some (.int .i64 0) := Bs6.out.cell rfl
  have s3 : (W9).cell? ⟨bs, 3, none⟩ = some (.string ⟨#[]⟩) := Bs6.out.cell rfl
  have ls : bs < (W9).heap.size := Bs6.out.lt
  have sf0 : (W9).frozen? ⟨bs, 0, none⟩ = false := Bs6.out.frozen 0
  have sf1 : (W9).frozen? ⟨bs, 1, none⟩ = false := Bs6.out.frozen 1
  have sf2 : (W9).frozen? ⟨bs, 2, none⟩ = false := Bs6.out.frozen 2
  have sf3 : (W9).frozen? ⟨bs, 3, none⟩ = false := Bs6.out.frozen 3
  have y0 : (W9).cell? ⟨w5.heap.size, 0, none⟩ = some (.int .i64 3) := By6.out.cell rfl
  have y1 : (W9).cell? ⟨w5.heap.size, 1, none⟩ = some (.int .i64 0) := By6.out.cell rfl
  have y2 : (W9).cell? ⟨w5.heap.size, 2, none⟩ = some (.int .i64 0) := By6.out.cell rfl
  have y3 : (W9).cell? ⟨w5.heap.size, 3, none⟩ = some (.string (txt s)) := By6.out.cell rfl
  have ly : w5.heap.size < (W9).heap.size := By6.out.lt
  have yf0 : (W9).frozen? ⟨w5.heap.size, 0, none⟩ = false := By6.out.frozen 0
  have yf1 : (W9).frozen? ⟨w5.heap.size, 1, none⟩ = false := By6.out.frozen 1
  have yf2 : (W9).frozen? ⟨w5.heap.size, 2, none⟩ = false := By6.out.frozen 2
  have yf3 : (W9).frozen? ⟨w5.heap.size, 3, none⟩ = false := By6.out.frozen 3
  go_wp2_with fail
  go_ret
  rw [show cR (f + 1) (.node 2 s n []) vs m = [insI 1 m, ⟨3, 0, 0, txt s⟩] from rfl]
  exact rcodeK_of (Own1.new2 (w := W9) (x := [.int .i64 1, .int .i64 m, .int .i64 0, .string ⟨#[]⟩]) (x' := [.int .i64 3, .int .i64 0, .int .i64 0, .string (txt s)]) rfl (by omega) rfl rfl ⟨rfl, ins_ok (by omega) (by omega) (by omega) (by omega) (by omega) (by omega) nil_size⟩ ⟨rfl, ins_ok (by omega) (by omega) (by omega) (by omega) (by omega) (by omega) (by rw [txt_size]; have := shape_len HND.out.1; unfold maxLen; omega)⟩) (CS6.out.bel.alloc (by omega) _)
set_option maxRecDepth 100000 in
set_option maxHeartbeats 8000000 in
theorem rcode_word {l : List ND} {lv : Value} {W0 : World} {f k p : Nat} {s : List Nat} {n m : Int} {vs : List (List Nat)} {W : World} (H : RPre l lv W0 (f + 1) (.node k s n []) p vs m W) (hk : 3 ≤ k ∧ k ≤ 6) : Calls Tryd.prog 30 #[.agg #[lv], .int .i64 (p : Int), .int .i64 m] W (RCodeK W (cR (f + 1) (.node k s n []) vs m)) := by
  obtain ⟨hd, hks⟩ := stands_node H.st
  obtain ⟨la, lc, rfl, _, _⟩ := H.hs.form
  have hpl := (List.getElem?_eq_some_iff.1 hd).1
  obtain ⟨nl, hnl⟩ : ∃ z, l.length = z := ⟨_, rfl⟩
  rw [hnl] at H hpl ⊢
  try rw [hnl] at ih
  have hB6 := H.hw.alloc H.hw.size (.cells #[.slice la nl lc] 38)
  have hhs := H.hs
  obtain ⟨b, off, x, rfl, hbB, hxl, ⟨kv, rfl, hkv⟩, hx⟩ := (hhs.below hB6).at_ hd
  obtain ⟨ka, kc, rfl, _, _⟩ := hkv.form
  simp only [List.length_map, places_len] at hkv hx
  simp only [List.length_cons, List.length_nil, Nat.zero_add, Nat.reduceAdd] at hkv hx
  have x0 := hx 0 _ rfl
  have x1 := hx 1 _ rfl
  have x2 := hx 2 _ rfl
  have x3 := hx 3 _ rfl
  simp only [Nat.add_zero] at x0
  have p0 : (0 : Int) ≤ (p : Int) := Int.natCast_nonneg _
  have p1 : (p : Int) < (nl : Int) := by omega
  have HH := Lib.hid H
  have HNL := Lib.hid hnl
  have HKV := Lib.hid hkv
  have m1 := H.m1
  have m2 : m ≤ 1000 := by have := H.mf; omega
  obtain ⟨jI, hi, hz, hsz, hby⟩ := info_parts info_Ins
  have I := Lib.hid (And.intro hi (And.intro hz (And.intro hsz hby)))
  clear hi hz hsz hby H hd hkv hx hxl hks hnl hhs hB6
  go_enter Tryd.func30, Tryd.ntmps30
  go_upto_region 1 with fail
  have e0 : (W.alloc (.cells #[(.slice (some ⟨b, off, none⟩) nl lc)] 38)).cell? ⟨W.heap.size, 0, none⟩ = some (.slice (some ⟨b, off, none⟩) nl lc) := (Blk.new W 38 #[(.slice (some ⟨b, off, none⟩) nl lc)]).cell rfl
  have lw0 : W.heap.size < (W.alloc (.cells #[(.slice (some ⟨b, off, none⟩) nl lc)] 38)).heap.size := (Blk.new W 38 #[(.slice (some ⟨b, off, none⟩) nl lc)]).lt
  generalize hW1 : W.alloc (.cells #[(.slice (some ⟨b, off, none⟩) nl lc)] 38) = W1 at *
  have HW1 := Lib.hid hW1
  clear hW1
  go_upto_region 4 with (first
    | (go_at_call 55; go_must (refine (rins_step _).mono ?_); rintro e w2 ⟨rfl, hb⟩; go_must (have HB := Lib.hid (CSt.make HW1.out.symm hb)); clear hb)
    | fail)
  clear x0 x1 x2 x3 e0 lw0
  have CS := Lib.hid (HB.out.alloc (.cells #[.int .i64 1, .int .i64 m, .int .i64 0, .string ⟨#[]⟩] 46))
  have SK := Lib.hid (Blk.new w2 46 #[.int .i64 1, .int .i64 m, .int .i64 0, .string ⟨#[]⟩])
  generalize hW3 : w2.alloc (.cells #[.int .i64 1, .int .i64 m, .int .i64 0, .string ⟨#[]⟩] 46) = W3 at *
  obtain ⟨be, hbe⟩ : ∃ z, W.heap.size = z := ⟨_, rfl⟩
  obtain ⟨bx, hbx⟩ : ∃ z, W1.heap.size = z := ⟨_, rfl⟩
  obtain ⟨bs, hbs⟩ : ∃ z, w2.heap.size = z := ⟨_, rfl⟩
  rw [hbe] at CS
  rw [hbx, hbs] at CS
  rw [hbs] at SK
  first | rw [hbe, hbx, hbs] | rw [hbx, hbe, hbs]
  clear HB hW3 hbx hbs HW1
  have e0 : (W3).cell? ⟨be, 0, none⟩ = some (.slice (some ⟨b, off, none⟩) nl lc) := CS.out.eb.cell rfl
  have x0 : (W3).cell? ⟨bx, 0, none⟩ = some (.int .i64 (k : Int)) := CS.out.xb.cell rfl
  have x1 : (W3).cell? ⟨bx, 1, none⟩ = some (.string (txt s)) := CS.out.xb.cell rfl
  have x2 : (W3).cell? ⟨bx, 2, none⟩ = some (.int .i64 n) := CS.out.xb.cell rfl
  have x3 : (W3).cell? ⟨bx, 3, none⟩ = some (.slice ka 0 kc) := CS.out.xb.cell rfl
  have le : be < (W3).heap.size := Nat.lt_of_lt_of_le CS.out.le CS.out.lB
  have lx : bx < (W3).heap.size := Nat.lt_of_lt_of_le CS.out.lx CS.out.lB
  have hs0 : bs ≤ W3.heap.size := CS.out.lB
  have hwl : W.heap.size ≤ bs := CS.out.wl
  have HND := Lib.hid HH.out.good.1
  have hsS : bs < W3.heap.size := SK.out.lt
  have hp : p < l.length := by rw [HNL.out]; omega
  have ek1 : ((k : Int) == 1) = false := by rw [beq_eq_false_iff_ne]; omega
  have ek2 : ((k : Int) == 2) = false := by rw [beq_eq_false_iff_ne]; omega
  have ek7 : ((k : Int) == 7) = false := by rw [beq_eq_false_iff_ne]; omega
  have WK : Hid (∀ w, Calls Tryd.prog 56 #[.int .i64 (k : Int)] w fun e w' => e = .returned (.string (wordK k)) ∧ Quiet w w') := Lib.hid (fun w => rkind_any k (by omega) w)
  obtain ⟨wk, hwk⟩ : ∃ z, wordK k = z := ⟨_, rfl⟩
  have HWK := Lib.hid hwk
  rw [hwk] at WK
  clear hwk
  clear e0 x0 x1 x2 x3 le lx
  have e0 : (W3).cell? ⟨be, 0, none⟩ = some (.slice (some ⟨b, off, none⟩) nl lc) := CS.out.eb.cell rfl
  have x0 : (W3).cell? ⟨bx, 0, none⟩ = some (.int .i64 (k : Int)) := CS.out.xb.cell rfl
  have x1 : (W3).cell? ⟨bx, 1, none⟩ = some (.string (txt s)) := CS.out.xb.cell rfl
  have x2 : (W3).cell? ⟨bx, 2, none⟩ = some (.int .i64 n) := CS.out.xb.cell rfl
  have x3 : (W3).cell? ⟨bx, 3, none⟩ = some (.slice ka 0 kc) := CS.out.xb.cell rfl
  have le : be < (W3).heap.size := Nat.lt_of_lt_of_le CS.out.le CS.out.lB
  have lx : bx < (W3).heap.size := Nat.lt_of_lt_of_le CS.out.lx CS.out.lB
  have s0 : (W3).cell? ⟨bs, 0, none⟩ = some (.int .i64 1) := SK.out.cell rfl
  have s1 : (W3).cell? ⟨bs, 1, none⟩ = some (.int .i64 m) := SK.out.cell rfl
  have s2 : (W3).cell? ⟨bs, 2, none⟩ = some (.int .i64 0) := SK.out.cell rfl
  have s3 : (W3).cell? ⟨bs, 3, none⟩ = some (.string ⟨#[]⟩) := SK.out.cell rfl
  have ls : bs < (W3).heap.size := SK.out.lt
  have sf0 : (W3).frozen? ⟨bs, 0, none⟩ = false := SK.out.frozen 0
  have sf1 : (W3).frozen? ⟨bs, 1, none⟩ = false := SK.out.frozen 1
  have sf2 : (W3).frozen? ⟨bs, 2, none⟩ = false := SK.out.frozen 2
  have sf3 : (W3).frozen? ⟨bs, 3, none⟩ = false := SK.out.frozen 3
  have tokW : True := trivial
  have tokI : True := trivial
  go_upto_region 6 with (first
    | (have _t := tokW; go_at_call 56; go_must (refine (WK.out _).mono ?_); clear tokW _t
       rintro e w' ⟨rfl, nq, rfl⟩
       go_must (have CS1 := Lib.hid (CS.out.drewN nq))
       go_must (have Bs1 := Lib.hid (SK.out.drwN nq))
       go_must (have hsW3q : W3.heap.size ≤ (W3.drewN nq).heap.size := Nat.le_refl _)
       clear e0 x0 x1 x2 x3 le lx s0 s1 s2 s3 ls sf0 sf1 sf2 sf3
       go_must (have e0 : ((W3.drewN nq)).cell? ⟨be, 0, none⟩ = some (.slice (some ⟨b, off, none⟩) nl lc) := CS1.out.eb.cell rfl)
       go_must (have x0 : ((W3.drewN nq)).cell? ⟨bx, 0, none⟩ = some (.int .i64 (k : Int)) := CS1.out.xb.cell rfl)
       go_must (have x1 : ((W3.drewN nq)).cell? ⟨bx, 1, none⟩ = some (.string (txt s)) := CS1.out.xb.cell rfl)
       go_must (have x2 : ((W3.drewN nq)).cell? ⟨bx, 2, none⟩ = some (.int .i64 n) := CS1.out.xb.cell rfl)
       go_must (have x3 : ((W3.drewN nq)).cell? ⟨bx, 3, none⟩ = some (.slice ka 0 kc) := CS1.out.xb.cell rfl)
       go_must (have le : be < ((W3.drewN nq)).heap.size := Nat.lt_of_lt_of_le CS1.out.le CS1.out.lB)
       go_must (have lx : bx < ((W3.drewN nq)).heap.size := Nat.lt_of_lt_of_le CS1.out.lx CS1.out.lB)
       go_must (have s0 : ((W3.drewN nq)).cell? ⟨bs, 0, none⟩ = some (.int .i64 1) := Bs1.out.cell rfl)
       go_must (have s1 : ((W3.drewN nq)).cell? ⟨bs, 1, none⟩ = some (.int .i64 m) := Bs1.out.cell rfl)
       go_must (have s2 : ((W3.drewN nq)).cell? ⟨bs, 2, none⟩ = some (.int .i64 0) := Bs1.out.cell rfl)
       go_must (have s3 : ((W3.drewN nq)).cell? ⟨bs, 3, none⟩ = some (.string ⟨#[]⟩) := Bs1.out.cell rfl)
       go_must (have ls : bs < ((W3.drewN nq)).heap.size := Bs1.out.lt)
       go_must (have sf0 : ((W3.drewN nq)).frozen? ⟨bs, 0, none⟩ = false := Bs1.out.frozen 0)
       go_must (have sf1 : ((W3.drewN nq)).frozen? ⟨bs, 1, none⟩ = false := Bs1.out.frozen 1)
       go_must (have sf2 : ((W3.drewN nq)).frozen? ⟨bs, 2, none⟩ = false := Bs1.out.frozen 2)
       go_must (have sf3 : ((W3.drewN nq)).frozen? ⟨bs, 3, none⟩ = false := Bs1.out.frozen 3))
    | (have _t := tokI; go_at_call 55; go_must (refine (rins_any wk _).mono ?_); clear tokI _t
       rintro e w5 ⟨rfl, hb⟩
       go_must (have CS2 := Lib.hid (CS1.out.call hb))
       go_must (have Bs2 := Lib.hid (Bs1.out.below hb Bs1.out.lt))
       go_must (have hsw5 := hb.size)
       clear hb
       clear e0 x0 x1 x2 x3 le lx s0 s1 s2 s3 ls sf0 sf1 sf2 sf3
       go_must (have e0 : (w5).cell? ⟨be, 0, none⟩ = some (.slice (some ⟨b, off, none⟩) nl lc) := CS2.out.eb.cell rfl)
       go_must (have x0 : (w5).cell? ⟨bx, 0, none⟩ = some (.int .i64 (k : Int)) := CS2.out.xb.cell rfl)
       go_must (have x1 : (w5).cell? ⟨bx, 1, none⟩ = some (.string (txt s)) := CS2.out.xb.cell rfl)
       go_must (have x2 : (w5).cell? ⟨bx, 2, none⟩ = some (.int .i64 n) := CS2.out.xb.cell rfl)
       go_must (have x3 : (w5).cell? ⟨bx, 3, none⟩ = some (.slice ka 0 kc) := CS2.out.xb.cell rfl)
       go_must (have le : be < (w5).heap.size := Nat.lt_of_lt_of_le CS2.out.le CS2.out.lB)
       go_must (have lx : bx < (w5).heap.size := Nat.lt_of_lt_of_le CS2.out.lx CS2.out.lB)
       go_must (have s0 : (w5).cell? ⟨bs, 0, none⟩ = some (.int .i64 1) := Bs2.out.cell rfl)
       go_must (have s1 : (w5).cell? ⟨bs, 1, none⟩ = some (.int .i64 m) := Bs2.out.cell rfl)
       go_must (have s2 : (w5).cell? ⟨bs, 2, none⟩ = some (.int .i64 0) := Bs2.out.cell rfl)
       go_must (have s3 : (w5).cell? ⟨bs, 3, none⟩ = some (.string ⟨#[]⟩) := Bs2.out.cell rfl)
       go_must (have ls : bs < (w5).heap.size := Bs2.out.lt)
       go_must (have sf0 : (w5).frozen? ⟨bs, 0, none⟩ = false := Bs2.out.frozen 0)
       go_must (have sf1 : (w5).frozen? ⟨bs, 1, none⟩ = false := Bs2.out.frozen 1)
       go_must (have sf2 : (w5).frozen? ⟨bs, 2, none⟩ = false := Bs2.out.frozen 2)
       go_must (have sf3 : (w5).frozen? ⟨bs, 3, none⟩ = false := Bs2.out.frozen 3))
    | fail)
  obtain ⟨op0, hop0⟩ : ∃ z, opR wk = z := ⟨_, rfl⟩
  rw [hop0]
  have HOP := Lib.hid hop0
  clear hop0
  have CS3 := Lib.hid (CS2.out.alloc (.cells #[.int .i64 op0, .int .i64 0, .int .i64 0, .string ⟨#[]⟩] 46))
  have Bs3 := Lib.hid (Bs2.out.alloc (.cells #[.int .i64 op0, .int .i64 0, .int .i64 0, .string ⟨#[]⟩] 46))
  have By := Lib.hid (Blk.new w5 46 #[.int .i64 op0, .int .i64 0, .int .i64 0, .string ⟨#[]⟩])
  have hsW6 : w5.heap.size < (w5.alloc (.cells #[.int .i64 op0, .int .i64 0, .int .i64 0, .string ⟨#[]⟩] 46)).heap.size := by simp
  generalize w5.alloc (.cells #[.int .i64 op0, .int .i64 0, .int .i64 0, .string ⟨#[]⟩] 46) = W6 at *
  clear e0 x0 x1 x2 x3 le lx s0 s1 s2 s3 ls sf0 sf1 sf2 sf3
  have e0 : (W6).cell? ⟨be, 0, none⟩ = some (.slice (some ⟨b, off, none⟩) nl lc) := CS3.out.eb.cell rfl
  have x0 : (W6).cell? ⟨bx, 0, none⟩ = some (.int .i64 (k : Int)) := CS3.out.xb.cell rfl
  have x1 : (W6).cell? ⟨bx, 1, none⟩ = some (.string (txt s)) := CS3.out.xb.cell rfl
  have x2 : (W6).cell? ⟨bx, 2, none⟩ = some (.int .i64 n) := CS3.out.xb.cell rfl
  have x3 : (W6).cell? ⟨bx, 3, none⟩ = some (.slice ka 0 kc) := CS3.out.xb.cell rfl
  have le : be < (W6).heap.size := Nat.lt_of_lt_of_le CS3.out.le CS3.out.lB
  have lx : bx < (W6).heap.size := Nat.lt_of_lt_of_le CS3.out.lx CS3.out.lB
  have s0 : (W6).cell? ⟨bs, 0, none⟩ = some (.int .i64 1) := Bs3.out.cell rfl
  have s1 : (W6).cell? ⟨bs, 1, none⟩ = some (.int .i64 m) := Bs3.out.cell rfl
  have s2 : (W6).cell? ⟨bs, 2, none⟩ = some (.int .i64 0) := Bs3.out.cell rfl
  have s3 : (W6).cell? ⟨bs, 3, none⟩ = some (.string ⟨#[]⟩) := Bs3.out.cell rfl
  have ls : bs < (W6).heap.size := Bs3.out.lt
  have sf0 : (W6).frozen? ⟨bs, 0, none⟩ = false := Bs3.out.frozen 0
  have sf1 : (W6).frozen? ⟨bs, 1, none⟩ = false := Bs3.out.frozen 1
  have sf2 : (W6).frozen? ⟨bs, 2, none⟩ = false := Bs3.out.frozen 2
  have sf3 : (W6).frozen? ⟨bs, 3, none⟩ = false := Bs3.out.frozen 3
  have y0 : (W6).cell? ⟨w5.heap.size, 0, none⟩ = some (.int .i64 op0) := By.out.cell rfl
  have y1 : (W6).cell? ⟨w5.heap.size, 1, none⟩ = some (.int .i64 0) := By.out.cell rfl
  have y2 : (W6).cell? ⟨w5.heap.size, 2, none⟩ = some (.int .i64 0) := By.out.cell rfl
  have y3 : (W6).cell? ⟨w5.heap.size, 3, none⟩ = some (.string ⟨#[]⟩) := By.out.cell rfl
  have ly : w5.heap.size < (W6).heap.size := By.out.lt
  have yf0 : (W6).frozen? ⟨w5.heap.size, 0, none⟩ = false := By.out.frozen 0
  have yf1 : (W6).frozen? ⟨w5.heap.size, 1, none⟩ = false := By.out.frozen 1
  have yf2 : (W6).frozen? ⟨w5.heap.size, 2, none⟩ = false := By.out.frozen 2
  have yf3 : (W6).frozen? ⟨w5.heap.size, 3, none⟩ = false := By.out.frozen 3
  go_upto_region 19 with fail
  go_wp2_with fail
  go_ret
  have hs := shape_notext HND.out.1 (by omega)
  have hop : op0 = sameN k := by rw [← HOP.out, ← HWK.out, opR_wordK (by omega)]; unfold opK; rw [if_neg (by omega)]
  have hsm : -9223372036854775808 ≤ sameN k ∧ sameN k ≤ 9223372036854775807 := sameN_rng (by omega)
  have hcr : cR (f + 1) (.node k s n []) vs m = [insI 1 m, ⟨op0, 0, 0, ⟨#[]⟩⟩] := by
    rw [hop, hs]
    simp only [cR, leafI]
    rw [if_neg (by omega), if_neg (by omega), if_neg (by omega)]
    rfl
  rw [hcr]
  rw [← hop] at hsm
  exact rcodeK_of (Own1.new2 (w := W6) (x := [.int .i64 1, .int .i64 m, .int .i64 0, .string ⟨#[]⟩]) (x' := [.int .i64 op0, .int .i64 0, .int .i64 0, .string ⟨#[]⟩]) rfl (by omega) rfl rfl ⟨rfl, ins_ok (by omega) (by omega) (by omega) (by omega) (by omega) (by omega) nil_size⟩ ⟨rfl, ins_ok hsm.1 hsm.2 (by omega) (by omega) (by omega) (by omega) nil_size⟩) (CS3.out.bel.alloc (by omega) _)
set_option maxRecDepth 100000 in
set_option maxHeartbeats 8000000 in
theorem rcode_var {l : List ND} {lv : Value} {W0 : World} {f p : Nat} {s : List Nat} {n m : Int} {vs : List (List Nat)} {W : World} (H : RPre l lv W0 (f + 1) (.node 7 s n []) p vs m W) : Calls Tryd.prog 30 #[.agg #[lv], .int .i64 (p : Int), .int .i64 m] W (RCodeK W (cR (f + 1) (.node 7 s n []) vs m)) := by
  obtain ⟨hd, hks⟩ := stands_node H.st
  obtain ⟨la, lc, rfl, _, _⟩ := H.hs.form
  have hpl := (List.getElem?_eq_some_iff.1 hd).1
  obtain ⟨nl, hnl⟩ : ∃ z, l.length = z := ⟨_, rfl⟩
  rw [hnl] at H hpl ⊢
  try rw [hnl] at ih
  have hB6 := H.hw.alloc H.hw.size (.cells #[.slice la nl lc] 38)
  have hhs := H.hs
  obtain ⟨b, off, x, rfl, hbB, hxl, ⟨kv, rfl, hkv⟩, hx⟩ := (hhs.below hB6).at_ hd
  obtain ⟨ka, kc, rfl, _, _⟩ := hkv.form
  simp only [List.length_map, places_len] at hkv hx
  simp only [List.length_cons, List.length_nil, Nat.zero_add, Nat.reduceAdd] at hkv hx
  have x0 := hx 0 _ rfl
  have x1 := hx 1 _ rfl
  have x2 := hx 2 _ rfl
  have x3 := hx 3 _ rfl
  simp only [Nat.add_zero] at x0
  have p0 : (0 : Int) ≤ (p : Int) := Int.natCast_nonneg _
  have p1 : (p : Int) < (nl : Int) := by omega
  have HH := Lib.hid H
  have HNL := Lib.hid hnl
  have HKV := Lib.hid hkv
  have m1 := H.m1
  have m2 : m ≤ 1000 := by have := H.mf; omega
  obtain ⟨jI, hi, hz, hsz, hby⟩ := info_parts info_Ins
  have I := Lib.hid (And.intro hi (And.intro hz (And.intro hsz hby)))
  clear hi hz hsz hby H hd hkv hx hxl hks hnl hhs hB6
  go_enter Tryd.func30, Tryd.ntmps30
  go_upto_region 1 with fail
  have e0 : (W.alloc (.cells #[(.slice (some ⟨b, off, none⟩) nl lc)] 38)).cell? ⟨W.heap.size, 0, none⟩ = some (.slice (some ⟨b, off, none⟩) nl lc) := (Blk.new W 38 #[(.slice (some ⟨b, off, none⟩) nl lc)]).cell rfl
  have lw0 : W.heap.size < (W.alloc (.cells #[(.slice (some ⟨b, off, none⟩) nl lc)] 38)).heap.size := (Blk.new W 38 #[(.slice (some ⟨b, off, none⟩) nl lc)]).lt
  generalize hW1 : W.alloc (.cells #[(.slice (some ⟨b, off, none⟩) nl lc)] 38) = W1 at *
  have HW1 := Lib.hid hW1
  clear hW1
  go_upto_region 4 with (first
    | (go_at_call 55; go_must (refine (rins_step _).mono ?_); rintro e w2 ⟨rfl, hb⟩; go_must (have HB := Lib.hid (CSt.make HW1.out.symm hb)); clear hb)
    | fail)
  clear x0 x1 x2 x3 e0 lw0
  have CS := Lib.hid (HB.out.alloc (.cells #[.int .i64 1, .int .i64 m, .int .i64 0, .string ⟨#[]⟩] 46))
  have SK := Lib.hid (Blk.new w2 46 #[.int .i64 1, .int .i64 m, .int .i64 0, .string ⟨#[]⟩])
  generalize hW3 : w2.alloc (.cells #[.int .i64 1, .int .i64 m, .int .i64 0, .string ⟨#[]⟩] 46) = W3 at *
  obtain ⟨be, hbe⟩ : ∃ z, W.heap.size = z := ⟨_, rfl⟩
  obtain ⟨bx, hbx⟩ : ∃ z, W1.heap.size = z := ⟨_, rfl⟩
  obtain ⟨bs, hbs⟩ : ∃ z, w2.heap.size = z := ⟨_, rfl⟩
  rw [hbe] at CS
  rw [hbx, hbs] at CS
  rw [hbs] at SK
  first | rw [hbe, hbx, hbs] | rw [hbx, hbe, hbs]
  clear HB hW3 hbx hbs HW1
  have e0 : (W3).cell? ⟨be, 0, none⟩ = some (.slice (some ⟨b, off, none⟩) nl lc) := CS.out.eb.cell rfl
  have x0 : (W3).cell? ⟨bx, 0, none⟩ = some (.int .i64 (7 : Int)) := CS.out.xb.cell rfl
  have x1 : (W3).cell? ⟨bx, 1, none⟩ = some (.string (txt s)) := CS.out.xb.cell rfl
  have x2 : (W3).cell? ⟨bx, 2, none⟩ = some (.int .i64 n) := CS.out.xb.cell rfl
  have x3 : (W3).cell? ⟨bx, 3, none⟩ = some (.slice ka 0 kc) := CS.out.xb.cell rfl
  have le : be < (W3).heap.size := Nat.lt_of_lt_of_le CS.out.le CS.out.lB
  have lx : bx < (W3).heap.size := Nat.lt_of_lt_of_le CS.out.lx CS.out.lB
  have hs0 : bs ≤ W3.heap.size := CS.out.lB
  have hwl : W.heap.size ≤ bs := CS.out.wl
  have HND := Lib.hid HH.out.good.1
  have hsS : bs < W3.heap.size := SK.out.lt
  have hp : p < l.length := by rw [HNL.out]; omega
  have WK : Hid (∀ w, Calls Tryd.prog 56 #[.int .i64 7] w fun e w' => e = .returned (.string (wordK 7)) ∧ Quiet w w') := Lib.hid (fun w => rkind_any 7 (by omega) w)
  obtain ⟨wk, hwk⟩ : ∃ z, wordK 7 = z := ⟨_, rfl⟩
  have HWK := Lib.hid hwk
  rw [hwk] at WK
  clear hwk
  clear e0 x0 x1 x2 x3 le lx
  have e0 : (W3).cell? ⟨be, 0, none⟩ = some (.slice (some ⟨b, off, none⟩) nl lc) := CS.out.eb.cell rfl
  have x0 : (W3).cell? ⟨bx, 0, none⟩ = some (.int .i64 (7 : Int)) := CS.out.xb.cell rfl
  have x1 : (W3).cell? ⟨bx, 1, none⟩ = some (.string (txt s)) := CS.out.xb.cell rfl
  have x2 : (W3).cell? ⟨bx, 2, none⟩ = some (.int .i64 n) := CS.out.xb.cell rfl
  have x3 : (W3).cell? ⟨bx, 3, none⟩ = some (.slice ka 0 kc) := CS.out.xb.cell rfl
  have le : be < (W3).heap.size := Nat.lt_of_lt_of_le CS.out.le CS.out.lB
  have lx : bx < (W3).heap.size := Nat.lt_of_lt_of_le CS.out.lx CS.out.lB
  have s0 : (W3).cell? ⟨bs, 0, none⟩ = some (.int .i64 1) := SK.out.cell rfl
  have s1 : (W3).cell? ⟨bs, 1, none⟩ = some (.int .i64 m) := SK.out.cell rfl
  have s2 : (W3).cell? ⟨bs, 2, none⟩ = some (.int .i64 0) := SK.out.cell rfl
  have s3 : (W3).cell? ⟨bs, 3, none⟩ = some (.string ⟨#[]⟩) := SK.out.cell rfl
  have ls : bs < (W3).heap.size := SK.out.lt
  have sf0 : (W3).frozen? ⟨bs, 0, none⟩ = false := SK.out.frozen 0
  have sf1 : (W3).frozen? ⟨bs, 1, none⟩ = false := SK.out.frozen 1
  have sf2 : (W3).frozen? ⟨bs, 2, none⟩ = false := SK.out.frozen 2
  have sf3 : (W3).frozen? ⟨bs, 3, none⟩ = false := SK.out.frozen 3
  have tokW : True := trivial
  have tokI : True := trivial
  go_upto_region 6 with (first
    | (have _t := tokW; go_at_call 56; go_must (refine (WK.out _).mono ?_); clear tokW _t
       rintro e w' ⟨rfl, nq, rfl⟩
       go_must (have CS1 := Lib.hid (CS.out.drewN nq))
       go_must (have Bs1 := Lib.hid (SK.out.drwN nq))
       go_must (have hsW3q : W3.heap.size ≤ (W3.drewN nq).heap.size := Nat.le_refl _)
       clear e0 x0 x1 x2 x3 le lx s0 s1 s2 s3 ls sf0 sf1 sf2 sf3
       go_must (have e0 : ((W3.drewN nq)).cell? ⟨be, 0, none⟩ = some (.slice (some ⟨b, off, none⟩) nl lc) := CS1.out.eb.cell rfl)
       go_must (have x0 : ((W3.drewN nq)).cell? ⟨bx, 0, none⟩ = some (.int .i64 (7 : Int)) := CS1.out.xb.cell rfl)
       go_must (have x1 : ((W3.drewN nq)).cell? ⟨bx, 1, none⟩ = some (.string (txt s)) := CS1.out.xb.cell rfl)
       go_must (have x2 : ((W3.drewN nq)).cell? ⟨bx, 2, none⟩ = some (.int .i64 n) := CS1.out.xb.cell rfl)
       go_must (have x3 : ((W3.drewN nq)).cell? ⟨bx, 3, none⟩ = some (.slice ka 0 kc) := CS1.out.xb.cell rfl)
       go_must (have le : be < ((W3.drewN nq)).heap.size := Nat.lt_of_lt_of_le CS1.out.le CS1.out.lB)
       go_must (have lx : bx < ((W3.drewN nq)).heap.size := Nat.lt_of_lt_of_le CS1.out.lx CS1.out.lB)
       go_must (have s0 : ((W3.drewN nq)).cell? ⟨bs, 0, none⟩ = some (.int .i64 1) := Bs1.out.cell rfl)
       go_must (have s1 : ((W3.drewN nq)).cell? ⟨bs, 1, none⟩ = some (.int .i64 m) := Bs1.out.cell rfl)
       go_must (have s2 : ((W3.drewN nq)).cell? ⟨bs, 2, none⟩ = some (.int .i64 0) := Bs1.out.cell rfl)
       go_must (have s3 : ((W3.drewN nq)).cell? ⟨bs, 3, none⟩ = some (.string ⟨#[]⟩) := Bs1.out.cell rfl)
       go_must (have ls : bs < ((W3.drewN nq)).heap.size := Bs1.out.lt)
       go_must (have sf0 : ((W3.drewN nq)).frozen? ⟨bs, 0, none⟩ = false := Bs1.out.frozen 0)
       go_must (have sf1 : ((W3.drewN nq)).frozen? ⟨bs, 1, none⟩ = false := Bs1.out.frozen 1)
       go_must (have sf2 : ((W3.drewN nq)).frozen? ⟨bs, 2, none⟩ = false := Bs1.out.frozen 2)
       go_must (have sf3 : ((W3.drewN nq)).frozen? ⟨bs, 3, none⟩ = false := Bs1.out.frozen 3))
    | (have _t := tokI; go_at_call 55; go_must (refine (rins_any wk _).mono ?_); clear tokI _t
       rintro e w5 ⟨rfl, hb⟩
       go_must (have CS2 := Lib.hid (CS1.out.call hb))
       go_must (have Bs2 := Lib.hid (Bs1.out.below hb Bs1.out.lt))
       go_must (have hsw5 := hb.size)
       clear hb
       clear e0 x0 x1 x2 x3 le lx s0 s1 s2 s3 ls sf0 sf1 sf2 sf3
       go_must (have e0 : (w5).cell? ⟨be, 0, none⟩ = some (.slice (some ⟨b, off, none⟩) nl lc) := CS2.out.eb.cell rfl)
       go_must (have x0 : (w5).cell? ⟨bx, 0, none⟩ = some (.int .i64 (7 : Int)) := CS2.out.xb.cell rfl)
       go_must (have x1 : (w5).cell? ⟨bx, 1, none⟩ = some (.string (txt s)) := CS2.out.xb.cell rfl)
       go_must (have x2 : (w5).cell? ⟨bx, 2, none⟩ = some (.int .i64 n) := CS2.out.xb.cell rfl)
       go_must (have x3 : (w5).cell? ⟨bx, 3, none⟩ = some (.slice ka 0 kc) := CS2.out.xb.cell rfl)
       go_must (have le : be < (w5).heap.size := Nat.lt_of_lt_of_le CS2.out.le CS2.out.lB)
       go_must (have lx : bx < (w5).heap.size := Nat.lt_of_lt_of_le CS2.out.lx CS2.out.lB)
       go_must (have s0 : (w5).cell? ⟨bs, 0, none⟩ = some (.int .i64 1) := Bs2.out.cell rfl)
       go_must (have s1 : (w5).cell? ⟨bs, 1, none⟩ = some (.int .i64 m) := Bs2.out.cell rfl)
       go_must (have s2 : (w5).cell? ⟨bs, 2, none⟩ = some (.int .i64 0) := Bs2.out.cell rfl)
       go_must (have s3 : (w5).cell? ⟨bs, 3, none⟩ = some (.string ⟨#[]⟩) := Bs2.out.cell rfl)
       go_must (have ls : bs < (w5).heap.size := Bs2.out.lt)
       go_must (have sf0 : (w5).frozen? ⟨bs, 0, none⟩ = false := Bs2.out.frozen 0)
       go_must (have sf1 : (w5).frozen? ⟨bs, 1, none⟩ = false := Bs2.out.frozen 1)
       go_must (have sf2 : (w5).frozen? ⟨bs, 2, none⟩ = false := Bs2.out.frozen 2)
       go_must (have sf3 : (w5).frozen? ⟨bs, 3, none⟩ = false := Bs2.out.frozen 3))
    | fail)
  obtain ⟨op0, hop0⟩ : ∃ z, opR wk = z := ⟨_, rfl⟩
  rw [hop0]
  have HOP := Lib.hid hop0
  clear hop0
  have CS3 := Lib.hid (CS2.out.alloc (.cells #[.int .i64 op0, .int .i64 0, .int .i64 0, .string ⟨#[]⟩] 46))
  have Bs3 := Lib.hid (Bs2.out.alloc (.cells #[.int .i64 op0, .int .i64 0, .int .i64 0, .string ⟨#[]⟩] 46))
  have By := Lib.hid (Blk.new w5 46 #[.int .i64 op0, .int .i64 0, .int .i64 0, .string ⟨#[]⟩])
  have hsW6 : w5.heap.size < (w5.alloc (.cells #[.int .i64 op0, .int .i64 0, .int .i64 0, .string ⟨#[]⟩] 46)).heap.size := by simp
  generalize w5.alloc (.cells #[.int .i64 op0, .int .i64 0, .int .i64 0, .string ⟨#[]⟩] 46) = W6 at *
  clear e0 x0 x1 x2 x3 le lx s0 s1 s2 s3 ls sf0 sf1 sf2 sf3
  have e0 : (W6).cell? ⟨be, 0, none⟩ = some (.slice (some ⟨b, off, none⟩) nl lc) := CS3.out.eb.cell rfl
  have x0 : (W6).cell? ⟨bx, 0, none⟩ = some (.int .i64 (7 : Int)) := CS3.out.xb.cell rfl
  have x1 : (W6).cell? ⟨bx, 1, none⟩ = some (.string (txt s)) := CS3.out.xb.cell rfl
  have x2 : (W6).cell? ⟨bx, 2, none⟩ = some (.int .i64 n) := CS3.out.xb.cell rfl
  have x3 : (W6).cell? ⟨bx, 3, none⟩ = some (.slice ka 0 kc) := CS3.out.xb.cell rfl
  have le : be < (W6).heap.size := Nat.lt_of_lt_of_le CS3.out.le CS3.out.lB
  have lx : bx < (W6).heap.size := Nat.lt_of_lt_of_le CS3.out.lx CS3.out.lB
  have s0 : (W6).cell? ⟨bs, 0, none⟩ = some (.int .i64 1) := Bs3.out.cell rfl
  have s1 : (W6).cell? ⟨bs, 1, none⟩ = some (.int .i64 m) := Bs3.out.cell rfl
  have s2 : (W6).cell? ⟨bs, 2, none⟩ = some (.int .i64 0) := Bs3.out.cell rfl
  have s3 : (W6).cell? ⟨bs, 3, none⟩ = some (.string ⟨#[]⟩) := Bs3.out.cell rfl
  have ls : bs < (W6).heap.size := Bs3.out.lt
  have sf0 : (W6).frozen? ⟨bs, 0, none⟩ = false := Bs3.out.frozen 0
  have sf1 : (W6).frozen? ⟨bs, 1, none⟩ = false := Bs3.out.frozen 1
  have sf2 : (W6).frozen? ⟨bs, 2, none⟩ = false := Bs3.out.frozen 2
  have sf3 : (W6).frozen? ⟨bs, 3, none⟩ = false := Bs3.out.frozen 3
  have y0 : (W6).cell? ⟨w5.heap.size, 0, none⟩ = some (.int .i64 op0) := By.out.cell rfl
  have y1 : (W6).cell? ⟨w5.heap.size, 1, none⟩ = some (.int .i64 0) := By.out.cell rfl
  have y2 : (W6).cell? ⟨w5.heap.size, 2, none⟩ = some (.int .i64 0) := By.out.cell rfl
  have y3 : (W6).cell? ⟨w5.heap.size, 3, none⟩ = some (.string ⟨#[]⟩) := By.out.cell rfl
  have ly : w5.heap.size < (W6).heap.size := By.out.lt
  have yf0 : (W6).frozen? ⟨w5.heap.size, 0, none⟩ = false := By.out.frozen 0
  have yf1 : (W6).frozen? ⟨w5.heap.size, 1, none⟩ = false := By.out.frozen 1
  have yf2 : (W6).frozen? ⟨w5.heap.size, 2, none⟩ = false := By.out.frozen 2
  have yf3 : (W6).frozen? ⟨w5.heap.size, 3, none⟩ = false := By.out.frozen 3
  have tokY : True := trivial
  go_upto_region 15 with (first
    | (have _t := tokY; go_at_call 55; go_must (refine (rins_free _).mono ?_); clear tokY _t
       rintro e w7 ⟨rfl, hb⟩
       go_must (have CS4 := Lib.hid (CS3.out.call hb))
       go_must (have Bs4 := Lib.hid (Bs3.out.below hb Bs3.out.lt))
       go_must (have By4 := Lib.hid (By.out.below hb By.out.lt))
       go_must (have hsw7 := hb.size)
       clear hb
       clear e0 x0 x1 x2 x3 le lx s0 s1 s2 s3 ls sf0 sf1 sf2 sf3 y0 y1 y2 y3 ly yf0 yf1 yf2 yf3
       go_must (have e0 : (w7).cell? ⟨be, 0, none⟩ = some (.slice (some ⟨b, off, none⟩) nl lc) := CS4.out.eb.cell rfl)
       go_must (have x0 : (w7).cell? ⟨bx, 0, none⟩ = some (.int .i64 (7 : Int)) := CS4.out.xb.cell rfl)
       go_must (have x1 : (w7).cell? ⟨bx, 1, none⟩ = some (.string (txt s)) := CS4.out.xb.cell rfl)
       go_must (have x2 : (w7).cell? ⟨bx, 2, none⟩ = some (.int .i64 n) := CS4.out.xb.cell rfl)
       go_must (have x3 : (w7).cell? ⟨bx, 3, none⟩ = some (.slice ka 0 kc) := CS4.out.xb.cell rfl)
       go_must (have le : be < (w7).heap.size := Nat.lt_of_lt_of_le CS4.out.le CS4.out.lB)
       go_must (have lx : bx < (w7).heap.size := Nat.lt_of_lt_of_le CS4.out.lx CS4.out.lB)
       go_must (have s0 : (w7).cell? ⟨bs, 0, none⟩ = some (.int .i64 1) := Bs4.out.cell rfl)
       go_must (have s1 : (w7).cell? ⟨bs, 1, none⟩ = some (.int .i64 m) := Bs4.out.cell rfl)
       go_must (have s2 : (w7).cell? ⟨bs, 2, none⟩ = some (.int .i64 0) := Bs4.out.cell rfl)
       go_must (have s3 : (w7).cell? ⟨bs, 3, none⟩ = some (.string ⟨#[]⟩) := Bs4.out.cell rfl)
       go_must (have ls : bs < (w7).heap.size := Bs4.out.lt)
       go_must (have sf0 : (w7).frozen? ⟨bs, 0, none⟩ = false := Bs4.out.frozen 0)
       go_must (have sf1 : (w7).frozen? ⟨bs, 1, none⟩ = false := Bs4.out.frozen 1)
       go_must (have sf2 : (w7).frozen? ⟨bs, 2, none⟩ = false := Bs4.out.frozen 2)
       go_must (have sf3 : (w7).frozen? ⟨bs, 3, none⟩ = false := Bs4.out.frozen 3)
       go_must (have y0 : (w7).cell? ⟨w5.heap.size, 0, none⟩ = some (.int .i64 op0) := By4.out.cell rfl)
       go_must (have y1 : (w7).cell? ⟨w5.heap.size, 1, none⟩ = some (.int .i64 0) := By4.out.cell rfl)
       go_must (have y2 : (w7).cell? ⟨w5.heap.size, 2, none⟩ = some (.int .i64 0) := By4.out.cell rfl)
       go_must (have y3 : (w7).cell? ⟨w5.heap.size, 3, none⟩ = some (.string ⟨#[]⟩) := By4.out.cell rfl)
       go_must (have ly : w5.heap.size < (w7).heap.size := By4.out.lt)
       go_must (have yf0 : (w7).frozen? ⟨w5.heap.size, 0, none⟩ = false := By4.out.frozen 0)
       go_must (have yf1 : (w7).frozen? ⟨w5.heap.size, 1, none⟩ = false := By4.out.frozen 1)
       go_must (have yf2 : (w7).frozen? ⟨w5.heap.size, 2, none⟩ = false := By4.out.frozen 2)
       go_must (have yf3 : (w7).frozen? ⟨w5.heap.size, 3, none⟩ = false := By4.out.frozen 3))
    | fail)
  generalize hW8 : World.setCell (World.setCell (World.setCell (World.setCell _ _ _) _ _) _ _) _ _ = W8
  have CS5 : Hid (CSt W W8 (.slice (some ⟨b, off, none⟩) nl lc) be bx #[.int .i64 (7 : Int), .string (txt s), .int .i64 n, .slice ka 0 kc] bs) := Lib.hid (by rw [← hW8]; exact ((((CS4.out.set_ (g := w5.heap.size) (by omega) _ _).set_ (g := w5.heap.size) (by omega) _ _).set_ (g := w5.heap.size) (by omega) _ _).set_ (g := w5.heap.size) (by omega) _ _))
  have Bs5 : Hid (Blk W8 bs 46 #[.int .i64 1, .int .i64 m, .int .i64 0, .string ⟨#[]⟩]) := Lib.hid (by rw [← hW8]; exact ((((Bs4.out.far (p := ⟨w5.heap.size, 0, none⟩) (by show _ ≠ w5.heap.size; omega) _).far (p := ⟨w5.heap.size, 1, none⟩) (by show _ ≠ w5.heap.size; omega) _).far (p := ⟨w5.heap.size, 2, none⟩) (by show _ ≠ w5.heap.size; omega) _).far (p := ⟨w5.heap.size, 3, none⟩) (by show _ ≠ w5.heap.size; omega) _))
  have By5 : Hid (Blk W8 w5.heap.size 46 #[.int .i64 9, .int .i64 0, .int .i64 0, .string ⟨#[]⟩]) := Lib.hid (by rw [← hW8]; have := ((((By4.out.set_ 0 (.int .i64 9)).set_ 1 (.int .i64 0)).set_ 2 (.int .i64 0)).set_ 3 (.string ⟨#[]⟩)); simpa using this)
  have hsW8 : w7.heap.size ≤ W8.heap.size := by rw [← hW8]; simp
  clear hW8
  clear e0 x0 x1 x2 x3 le lx s0 s1 s2 s3 ls sf0 sf1 sf2 sf3 y0 y1 y2 y3 ly yf0 yf1 yf2 yf3
  have e0 : (W8).cell? ⟨be, 0, none⟩ = some (.slice (some ⟨b, off, none⟩) nl lc) := CS5.out.eb.cell rfl
  have x0 : (W8).cell? ⟨bx, 0, none⟩ = some (.int .i64 (7 : Int)) := CS5.out.xb.cell rfl
  have x1 : (W8).cell? ⟨bx, 1, none⟩ = some (.string (txt s)) := CS5.out.xb.cell rfl
  have x2 : (W8).cell? ⟨bx, 2, none⟩ = some (.int .i64 n) := CS5.out.xb.cell rfl
  have x3 : (W8).cell? ⟨bx, 3, none⟩ = some (.slice ka 0 kc) := CS5.out.xb.cell rfl
  have le : be < (W8).heap.size := Nat.lt_of_lt_of_le CS5.out.le CS5.out.lB
  have lx : bx < (W8).heap.size := Nat.lt_of_lt_of_le CS5.out.lx CS5.out.lB
  have s0 : (W8).cell? ⟨bs, 0, none⟩ = some (.int .i64 1) := Bs5.out.cell rfl
  have s1 : (W8).cell? ⟨bs, 1, none⟩ = some (.int .i64 m) := Bs5.out.cell rfl
  have s2 : (W8).cell? ⟨bs, 2, none⟩ = some (.int .i64 0) := Bs5.out.cell rfl
  have s3 : (W8).cell? ⟨bs, 3, none⟩ = some (.string ⟨#[]⟩) := Bs5.out.cell rfl
  have ls : bs < (W8).heap.size := Bs5.out.lt
  have sf0 : (W8).frozen? ⟨bs, 0, none⟩ = false := Bs5.out.frozen 0
  have sf1 : (W8).frozen? ⟨bs, 1, none⟩ = false := Bs5.out.frozen 1
  have sf2 : (W8).frozen? ⟨bs, 2, none⟩ = false := Bs5.out.frozen 2
  have sf3 : (W8).frozen? ⟨bs, 3, none⟩ = false := Bs5.out.frozen 3
  have y0 : (W8).cell? ⟨w5.heap.size, 0, none⟩ = some (.int .i64 9) := By5.out.cell rfl
  have y1 : (W8).cell? ⟨w5.heap.size, 1, none⟩ = some (.int .i64 0) := By5.out.cell rfl
  have y2 : (W8).cell? ⟨w5.heap.size, 2, none⟩ = some (.int .i64 0) := By5.out.cell rfl
  have y3 : (W8).cell? ⟨w5.heap.size, 3, none⟩ = some (.string ⟨#[]⟩) := By5.out.cell rfl
  have ly : w5.heap.size < (W8).heap.size := By5.out.lt
  have yf0 : (W8).frozen? ⟨w5.heap.size, 0, none⟩ = false := By5.out.frozen 0
  have yf1 : (W8).frozen? ⟨w5.heap.size, 1, none⟩ = false := By5.out.frozen 1
  have yf2 : (W8).frozen? ⟨w5.heap.size, 2, none⟩ = false := By5.out.frozen 2
  have yf3 : (W8).frozen? ⟨w5.heap.size, 3, none⟩ = false := By5.out.frozen 3
  have LP := Lib.hid (rloops_any W8 W0 HH.out.hs HH.out.hok (HH.out.hw.trans (CS5.out.bel.mono HH.out.hw.size)) p hp HH.out.hl s HND.out.2.1)
  rw [loops_law HH.out.un s (p + 1) 0 (Nat.lt_succ_self p)] at LP
  have tokL : True := trivial
  have hcr : cR (f + 1) (.node 7 s n []) vs m = [insI 1 m, varI vs s] := rfl
  unfold varI at hcr
  rcases hfi : vs.reverse.findIdx? (fun x => decide (x = s)) with _ | i
  · rw [hfi] at LP hcr
    have HCR := Lib.hid hcr
    clear hcr hfi
    go_upto_region 16 with (first
      | (have _t := tokL; go_at_call 57; go_must (refine (LP.out).mono ?_); clear tokL _t
         rintro e w9 ⟨rfl, hb⟩
         go_must (have CS6 := Lib.hid (CS5.out.call hb))
         go_must (have Bs6 := Lib.hid (Bs5.out.below hb Bs5.out.lt))
         go_must (have By6 := Lib.hid (By5.out.below hb By5.out.lt))
         go_must (have hsw9 := hb.size)
         clear hb
         clear e0 x0 x1 x2 x3 le lx s0 s1 s2 s3 ls sf0 sf1 sf2 sf3 y0 y1 y2 y3 ly yf0 yf1 yf2 yf3
         go_must (have e0 : (w9).cell? ⟨be, 0, none⟩ = some (.slice (some ⟨b, off, none⟩) nl lc) := CS6.out.eb.cell rfl)
         go_must (have x0 : (w9).cell? ⟨bx, 0, none⟩ = some (.int .i64 (7 : Int)) := CS6.out.xb.cell rfl)
         go_must (have x1 : (w9).cell? ⟨bx, 1, none⟩ = some (.string (txt s)) := CS6.out.xb.cell rfl)
         go_must (have x2 : (w9).cell? ⟨bx, 2, none⟩ = some (.int .i64 n) := CS6.out.xb.cell rfl)
         go_must (have x3 : (w9).cell? ⟨bx, 3, none⟩ = some (.slice ka 0 kc) := CS6.out.xb.cell rfl)
         go_must (have le : be < (w9).heap.size := Nat.lt_of_lt_of_le CS6.out.le CS6.out.lB)
         go_must (have lx : bx < (w9).heap.size := Nat.lt_of_lt_of_le CS6.out.lx CS6.out.lB)
         go_must (have s0 : (w9).cell? ⟨bs, 0, none⟩ = some (.int .i64 1) := Bs6.out.cell rfl)
         go_must (have s1 : (w9).cell? ⟨bs, 1, none⟩ = some (.int .i64 m) := Bs6.out.cell rfl)
         go_must (have s2 : (w9).cell? ⟨bs, 2, none⟩ = some (.int .i64 0) := Bs6.out.cell rfl)
         go_must (have s3 : (w9).cell? ⟨bs, 3, none⟩ = some (.string ⟨#[]⟩) := Bs6.out.cell rfl)
         go_must (have ls : bs < (w9).heap.size := Bs6.out.lt)
         go_must (have sf0 : (w9).frozen? ⟨bs, 0, none⟩ = false := Bs6.out.frozen 0)
         go_must (have sf1 : (w9).frozen? ⟨bs, 1, none⟩ = false := Bs6.out.frozen 1)
         go_must (have sf2 : (w9).frozen? ⟨bs, 2, none⟩ = false := Bs6.out.frozen 2)
         go_must (have sf3 : (w9).frozen? ⟨bs, 3, none⟩ = false := Bs6.out.frozen 3)
         go_must (have y0 : (w9).cell? ⟨w5.heap.size, 0, none⟩ = some (.int .i64 9) := By6.out.cell rfl)
         go_must (have y1 : (w9).cell? ⟨w5.heap.size, 1, none⟩ = some (.int .i64 0) := By6.out.cell rfl)
         go_must (have y2 : (w9).cell? ⟨w5.heap.size, 2, none⟩ = some (.int .i64 0) := By6.out.cell rfl)
         go_must (have y3 : (w9).cell? ⟨w5.heap.size, 3, none⟩ = some (.string ⟨#[]⟩) := By6.out.cell rfl)
         go_must (have ly : w5.heap.size < (w9).heap.size := By6.out.lt)
         go_must (have yf0 : (w9).frozen? ⟨w5.heap.size, 0, none⟩ = false := By6.out.frozen 0)
         go_must (have yf1 : (w9).frozen? ⟨w5.heap.size, 1, none⟩ = false := By6.out.frozen 1)
         go_must (have yf2 : (w9).frozen? ⟨w5.heap.size, 2, none⟩ = false := By6.out.frozen 2)
         go_must (have yf3 : (w9).frozen? ⟨w5.heap.size, 3, none⟩ = false := By6.out.frozen 3))
      | fail)
    go_upto_region 19 with fail
    go_wp2_with fail
    go_ret
    rw [HCR.out]
    exact rcodeK_of (Own1.new2 (w := w9) (x := [.int .i64 1, .int .i64 m, .int .i64 0, .string ⟨#[]⟩]) (x' := [.int .i64 9, .int .i64 0, .int .i64 0, .string ⟨#[]⟩]) rfl (by omega) rfl rfl ⟨rfl, ins_ok (by omega) (by omega) (by omega) (by omega) (by omega) (by omega) nil_size⟩ ⟨rfl, ins_ok (by omega) (by omega) (by omega) (by omega) (by omega) (by omega) nil_size⟩) (CS6.out.bel.alloc (by omega) _)
  · rw [hfi] at LP hcr
    have hil : i < vs.length := find_lt hfi
    have hvl := HH.out.vlen
    have ii : (0 : Int) + (i : Int) = (i : Int) := Int.zero_add _
    simp only [ii] at LP
    have HCR := Lib.hid hcr
    clear hcr hfi ii
    have i0 : (0 : Int) ≤ (i : Int) := Int.natCast_nonneg _
    go_upto_region 16 with (first
      | (have _t := tokL; go_at_call 57; go_must (refine (LP.out).mono ?_); clear tokL _t
         rintro e w9 ⟨rfl, hb⟩
         go_must (have CS6 := Lib.hid (CS5.out.call hb))
         go_must (have Bs6 := Lib.hid (Bs5.out.below hb Bs5.out.lt))
         go_must (have By6 := Lib.hid (By5.out.below hb By5.out.lt))
         go_must (have hsw9 := hb.size)
         clear hb
         clear e0 x0 x1 x2 x3 le lx s0 s1 s2 s3 ls sf0 sf1 sf2 sf3 y0 y1 y2 y3 ly yf0 yf1 yf2 yf3
         go_must (have e0 : (w9).cell? ⟨be, 0, none⟩ = some (.slice (some ⟨b, off, none⟩) nl lc) := CS6.out.eb.cell rfl)
         go_must (have x0 : (w9).cell? ⟨bx, 0, none⟩ = some (.int .i64 (7 : Int)) := CS6.out.xb.cell rfl)
         go_must (have x1 : (w9).cell? ⟨bx, 1, none⟩ = some (.string (txt s)) := CS6.out.xb.cell rfl)
         go_must (have x2 : (w9).cell? ⟨bx, 2, none⟩ = some (.int .i64 n) := CS6.out.xb.cell rfl)
         go_must (have x3 : (w9).cell? ⟨bx, 3, none⟩ = some (.slice ka 0 kc) := CS6.out.xb.cell rfl)
         go_must (have le : be < (w9).heap.size := Nat.lt_of_lt_of_le CS6.out.le CS6.out.lB)
         go_must (have lx : bx < (w9).heap.size := Nat.lt_of_lt_of_le CS6.out.lx CS6.out.lB)
         go_must (have s0 : (w9).cell? ⟨bs, 0, none⟩ = some (.int .i64 1) := Bs6.out.cell rfl)
         go_must (have s1 : (w9).cell? ⟨bs, 1, none⟩ = some (.int .i64 m) := Bs6.out.cell rfl)
         go_must (have s2 : (w9).cell? ⟨bs, 2, none⟩ = some (.int .i64 0) := Bs6.out.cell rfl)
         go_must (have s3 : (w9).cell? ⟨bs, 3, none⟩ = some (.string ⟨#[]⟩) := Bs6.out.cell rfl)
         go_must (have ls : bs < (w9).heap.size := Bs6.out.lt)
         go_must (have sf0 : (w9).frozen? ⟨bs, 0, none⟩ = false := Bs6.out.frozen 0)
         go_must (have sf1 : (w9).frozen? ⟨bs, 1, none⟩ = false := Bs6.out.frozen 1)
         go_must (have sf2 : (w9).frozen? ⟨bs, 2, none⟩ = false := Bs6.out.frozen 2)
         go_must (have sf3 : (w9).frozen? ⟨bs, 3, none⟩ = false := Bs6.out.frozen 3)
         go_must (have y0 : (w9).cell? ⟨w5.heap.size, 0, none⟩ = some (.int .i64 9) := By6.out.cell rfl)
         go_must (have y1 : (w9).cell? ⟨w5.heap.size, 1, none⟩ = some (.int .i64 0) := By6.out.cell rfl)
         go_must (have y2 : (w9).cell? ⟨w5.heap.size, 2, none⟩ = some (.int .i64 0) := By6.out.cell rfl)
         go_must (have y3 : (w9).cell? ⟨w5.heap.size, 3, none⟩ = some (.string ⟨#[]⟩) := By6.out.cell rfl)
         go_must (have ly : w5.heap.size < (w9).heap.size := By6.out.lt)
         go_must (have yf0 : (w9).frozen? ⟨w5.heap.size, 0, none⟩ = false := By6.out.frozen 0)
         go_must (have yf1 : (w9).frozen? ⟨w5.heap.size, 1, none⟩ = false := By6.out.frozen 1)
         go_must (have yf2 : (w9).frozen? ⟨w5.heap.size, 2, none⟩ = false := By6.out.frozen 2)
         go_must (have yf3 : (w9).frozen? ⟨w5.heap.size, 3, none⟩ = false := By6.out.frozen 3))
      | fail)
    have tokZ : True := trivial
    go_upto_region 18 with (first
      | (have _t := tokZ; go_at_call 55; go_must (refine (rins_load _).mono ?_); clear tokZ _t
         rintro e w10 ⟨rfl, hb⟩
         go_must (have CS7 := Lib.hid (CS6.out.call hb))
         go_must (have Bs7 := Lib.hid (Bs6.out.below hb Bs6.out.lt))
         go_must (have By7 := Lib.hid (By6.out.below hb By6.out.lt))
         go_must (have hsw10 := hb.size)
         clear hb
         clear e0 x0 x1 x2 x3 le lx s0 s1 s2 s3 ls sf0 sf1 sf2 sf3 y0 y1 y2 y3 ly yf0 yf1 yf2 yf3
         go_must (have e0 : (w10).cell? ⟨be, 0, none⟩ = some (.slice (some ⟨b, off, none⟩) nl lc) := CS7.out.eb.cell rfl)
         go_must (have x0 : (w10).cell? ⟨bx, 0, none⟩ = some (.int .i64 (7 : Int)) := CS7.out.xb.cell rfl)
         go_must (have x1 : (w10).cell? ⟨bx, 1, none⟩ = some (.string (txt s)) := CS7.out.xb.cell rfl)
         go_must (have x2 : (w10).cell? ⟨bx, 2, none⟩ = some (.int .i64 n) := CS7.out.xb.cell rfl)
         go_must (have x3 : (w10).cell? ⟨bx, 3, none⟩ = some (.slice ka 0 kc) := CS7.out.xb.cell rfl)
         go_must (have le : be < (w10).heap.size := Nat.lt_of_lt_of_le CS7.out.le CS7.out.lB)
         go_must (have lx : bx < (w10).heap.size := Nat.lt_of_lt_of_le CS7.out.lx CS7.out.lB)
         go_must (have s0 : (w10).cell? ⟨bs, 0, none⟩ = some (.int .i64 1) := Bs7.out.cell rfl)
         go_must (have s1 : (w10).cell? ⟨bs, 1, none⟩ = some (.int .i64 m) := Bs7.out.cell rfl)
         go_must (have s2 : (w10).cell? ⟨bs, 2, none⟩ = some (.int .i64 0) := Bs7.out.cell rfl)
         go_must (have s3 : (w10).cell? ⟨bs, 3, none⟩ = some (.string ⟨#[]⟩) := Bs7.out.cell rfl)
         go_must (have ls : bs < (w10).heap.size := Bs7.out.lt)
         go_must (have sf0 : (w10).frozen? ⟨bs, 0, none⟩ = false := Bs7.out.frozen 0)
         go_must (have sf1 : (w10).frozen? ⟨bs, 1, none⟩ = false := Bs7.out.frozen 1)
         go_must (have sf2 : (w10).frozen? ⟨bs, 2, none⟩ = false := Bs7.out.frozen 2)
         go_must (have sf3 : (w10).frozen? ⟨bs, 3, none⟩ = false := Bs7.out.frozen 3)
         go_must (have y0 : (w10).cell? ⟨w5.heap.size, 0, none⟩ = some (.int .i64 9) := By7.out.cell rfl)
         go_must (have y1 : (w10).cell? ⟨w5.heap.size, 1, none⟩ = some (.int .i64 0) := By7.out.cell rfl)
         go_must (have y2 : (w10).cell? ⟨w5.heap.size, 2, none⟩ = some (.int .i64 0) := By7.out.cell rfl)
         go_must (have y3 : (w10).cell? ⟨w5.heap.size, 3, none⟩ = some (.string ⟨#[]⟩) := By7.out.cell rfl)
         go_must (have ly : w5.heap.size < (w10).heap.size := By7.out.lt)
         go_must (have yf0 : (w10).frozen? ⟨w5.heap.size, 0, none⟩ = false := By7.out.frozen 0)
         go_must (have yf1 : (w10).frozen? ⟨w5.heap.size, 1, none⟩ = false := By7.out.frozen 1)
         go_must (have yf2 : (w10).frozen? ⟨w5.heap.size, 2, none⟩ = false := By7.out.frozen 2)
         go_must (have yf3 : (w10).frozen? ⟨w5.heap.size, 3, none⟩ = false := By7.out.frozen 3))
      | fail)
    generalize hW11 : World.setCell (World.setCell (World.setCell (World.setCell _ _ _) _ _) _ _) _ _ = W11
    have CS8 : Hid (CSt W W11 (.slice (some ⟨b, off, none⟩) nl lc) be bx #[.int .i64 (7 : Int), .string (txt s), .int .i64 n, .slice ka 0 kc] bs) := Lib.hid (by rw [← hW11]; exact ((((CS7.out.set_ (g := w5.heap.size) (by omega) _ _).set_ (g := w5.heap.size) (by omega) _ _).set_ (g := w5.heap.size) (by omega) _ _).set_ (g := w5.heap.size) (by omega) _ _))
    have Bs8 : Hid (Blk W11 bs 46 #[.int .i64 1, .int .i64 m, .int .i64 0, .string ⟨#[]⟩]) := Lib.hid (by rw [← hW11]; exact ((((Bs7.out.far (p := ⟨w5.heap.size, 0, none⟩) (by show _ ≠ w5.heap.size; omega) _).far (p := ⟨w5.heap.size, 1, none⟩) (by show _ ≠ w5.heap.size; omega) _).far (p := ⟨w5.heap.size, 2, none⟩) (by show _ ≠ w5.heap.size; omega) _).far (p := ⟨w5.heap.size, 3, none⟩) (by show _ ≠ w5.heap.size; omega) _))
    have By8 : Hid (Blk W11 w5.heap.size 46 #[.int .i64 8, .int .i64 0, .int .i64 0, .string ⟨#[]⟩]) := Lib.hid (by rw [← hW11]; have := ((((By7.out.set_ 0 (.int .i64 8)).set_ 1 (.int .i64 0)).set_ 2 (.int .i64 0)).set_ 3 (.string ⟨#[]⟩)); simpa using this)
    have hsW11 : w10.heap.size ≤ W11.heap.size := by rw [← hW11]; simp
    clear hW11
    clear e0 x0 x1 x2 x3 le lx s0 s1 s2 s3 ls sf0 sf1 sf2 sf3 y0 y1 y2 y3 ly yf0 yf1 yf2 yf3
    have e0 : (W11).cell? ⟨be, 0, none⟩ = some (.slice (some ⟨b, off, none⟩) nl lc) := CS8.out.eb.cell rfl
    have x0 : (W11).cell? ⟨bx, 0, none⟩ = some (.int .i64 (7 : Int)) := CS8.out.xb.cell rfl
    have x1 : (W11).cell? ⟨bx, 1, none⟩ = some (.string (txt s)) := CS8.out.xb.cell rfl
    have x2 : (W11).cell? ⟨bx, 2, none⟩ = some (.int .i64 n) := CS8.out.xb.cell rfl
    have x3 : (W11).cell? ⟨bx, 3, none⟩ = some (.slice ka 0 kc) := CS8.out.xb.cell rfl
    have le : be < (W11).heap.size := Nat.lt_of_lt_of_le CS8.out.le CS8.out.lB
    have lx : bx < (W11).heap.size := Nat.lt_of_lt_of_le CS8.out.lx CS8.out.lB
    have s0 : (W11).cell? ⟨bs, 0, none⟩ = some (.int .i64 1) := Bs8.out.cell rfl
    have s1 : (W11).cell? ⟨bs, 1, none⟩ = some (.int .i64 m) := Bs8.out.cell rfl
    have s2 : (W11).cell? ⟨bs, 2, none⟩ = some (.int .i64 0) := Bs8.out.cell rfl
    have s3 : (W11).cell? ⟨bs, 3, none⟩ = some (.string ⟨#[]⟩) := Bs8.out.cell rfl
    have ls : bs < (W11).heap.size := Bs8.out.lt
    have sf0 : (W11).frozen? ⟨bs, 0, none⟩ = false := Bs8.out.frozen 0
    have sf1 : (W11).frozen? ⟨bs, 1, none⟩ = false := Bs8.out.frozen 1
    have sf2 : (W11).frozen? ⟨bs, 2, none⟩ = false := Bs8.out.frozen 2
    have sf3 : (W11).frozen? ⟨bs, 3, none⟩ = false := Bs8.out.frozen 3
    have y0 : (W11).cell? ⟨w5.heap.size, 0, none⟩ = some (.int .i64 8) := By8.out.cell rfl
    have y1 : (W11).cell? ⟨w5.heap.size, 1, none⟩ = some (.int .i64 0) := By8.out.cell rfl
    have y2 : (W11).cell? ⟨w5.heap.size, 2, none⟩ = some (.int .i64 0) := By8.out.cell rfl
    have y3 : (W11).cell? ⟨w5.heap.size, 3, none⟩ = some (.string ⟨#[]⟩) := By8.out.cell rfl
    have ly : w5.heap.size < (W11).heap.size := By8.out.lt
    have yf0 : (W11).frozen? ⟨w5.heap.size, 0, none⟩ = false := By8.out.frozen 0
    have yf1 : (W11).frozen? ⟨w5.heap.size, 1, none⟩ = false := By8.out.frozen 1
    have yf2 : (W11).frozen? ⟨w5.heap.size, 2, none⟩ = false := By8.out.frozen 2
    have yf3 : (W11).frozen? ⟨w5.heap.size, 3, none⟩ = false := By8.out.frozen 3
    go_upto_region 19 with fail
    generalize hW12 : World.setCell _ _ _ = W12
    have CS9 : Hid (CSt W W12 (.slice (some ⟨b, off, none⟩) nl lc) be bx #[.int .i64 (7 : Int), .string (txt s), .int .i64 n, .slice ka 0 kc] bs) := Lib.hid (by rw [← hW12]; exact (CS8.out.set_ (g := w5.heap.size) (by omega) _ _))
    have Bs9 : Hid (Blk W12 bs 46 #[.int .i64 1, .int .i64 m, .int .i64 0, .string ⟨#[]⟩]) := Lib.hid (by rw [← hW12]; exact (Bs8.out.far (p := ⟨w5.heap.size, 1, none⟩) (by show _ ≠ w5.heap.size; omega) _))
    have By9 : Hid (Blk W12 w5.heap.size 46 #[.int .i64 8, .int .i64 (i : Int), .int .i64 0, .string ⟨#[]⟩]) := Lib.hid (by rw [← hW12]; have := (By8.out.set_ 1 (.int .i64 (i : Int))); simpa using this)
    have hsW12 : W11.heap.size ≤ W12.heap.size := by rw [← hW12]; simp
    clear hW12
    clear e0 x0 x1 x2 x3 le lx s0 s1 s2 s3 ls sf0 sf1 sf2 sf3 y0 y1 y2 y3 ly yf0 yf1 yf2 yf3
    have e0 : (W12).cell? ⟨be, 0, none⟩ = some (.slice (some ⟨b, off, none⟩) nl lc) := CS9.out.eb.cell rfl
    have x0 : (W12).cell? ⟨bx, 0, none⟩ = some (.int .i64 (7 : Int)) := CS9.out.xb.cell rfl
    have x1 : (W12).cell? ⟨bx, 1, none⟩ = some (.string (txt s)) := CS9.out.xb.cell rfl
    have x2 : (W12).cell? ⟨bx, 2, none⟩ = some (.int .i64 n) := CS9.out.xb.cell rfl
    have x3 : (W12).cell? ⟨bx, 3, none⟩ = some (.slice ka 0 kc) := CS9.out.xb.cell rfl
    have le : be < (W12).heap.size := Nat.lt_of_lt_of_le CS9.out.le CS9.out.lB
    have lx : bx < (W12).heap.size := Nat.lt_of_lt_of_le CS9.out.lx CS9.out.lB
    have s0 : (W12).cell? ⟨bs, 0, none⟩ = some (.int .i64 1) := Bs9.out.cell rfl
    have s1 : (W12).cell? ⟨bs, 1, none⟩ = some (.int .i64 m) := Bs9.out.cell rfl
    have s2 : (W12).cell? ⟨bs, 2, none⟩ = some (.int .i64 0) := Bs9.out.cell rfl
    have s3 : (W12).cell? ⟨bs, 3, none⟩ = some (.string ⟨#[]⟩) := Bs9.out.cell rfl
    have ls : bs < (W12).heap.size := Bs9.out.lt
    have sf0 : (W12).frozen? ⟨bs, 0, none⟩ = false := Bs9.out.frozen 0
    have sf1 : (W12).frozen? ⟨bs, 1, none⟩ = false := Bs9.out.frozen 1
    have sf2 : (W12).frozen? ⟨bs, 2, none⟩ = false := Bs9.out.frozen 2
    have sf3 : (W12).frozen? ⟨bs, 3, none⟩ = false := Bs9.out.frozen 3
    have y0 : (W12).cell? ⟨w5.heap.size, 0, none⟩ = some (.int .i64 8) := By9.out.cell rfl
    have y1 : (W12).cell? ⟨w5.heap.size, 1, none⟩ = some (.int .i64 (i : Int)) := By9.out.cell rfl
    have y2 : (W12).cell? ⟨w5.heap.size, 2, none⟩ = some (.int .i64 0) := By9.out.cell rfl
    have y3 : (W12).cell? ⟨w5.heap.size, 3, none⟩ = some (.string ⟨#[]⟩) := By9.out.cell rfl
    have ly : w5.heap.size < (W12).heap.size := By9.out.lt
    have yf0 : (W12).frozen? ⟨w5.heap.size, 0, none⟩ = false := By9.out.frozen 0
    have yf1 : (W12).frozen? ⟨w5.heap.size, 1, none⟩ = false := By9.out.frozen 1
    have yf2 : (W12).frozen? ⟨w5.heap.size, 2, none⟩ = false := By9.out.frozen 2
    have yf3 : (W12).frozen? ⟨w5.heap.size, 3, none⟩ = false := By9.out.frozen 3
    go_wp2_with fail
    go_ret
    rw [HCR.out]
    exact rcodeK_of (Own1.new2 (w := W12) (x := [.int .i64 1, .int .i64 m, .int .i64 0, .string ⟨#[]⟩]) (x' := [.int .i64 8, .int .i64 (i : Int), .int .i64 0, .string ⟨#[]⟩]) rfl (by omega) rfl rfl ⟨rfl, ins_ok (by omega) (by omega) (by omega) (by omega) (by omega) (by omega) nil_size⟩ ⟨rfl, ins_ok (by omega) (by omega) (by omega) (by omega) (by omega) (by omega) nil_size⟩) (CS9.out.bel.alloc (by omega) _)
end Go.Proofs.YtdkoafmgenbkbaaDoor
