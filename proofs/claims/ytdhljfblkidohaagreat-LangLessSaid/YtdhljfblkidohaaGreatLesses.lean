/- What is taken away from a definition that may be leaves one that may be: 'topiarylaw04.LangLess' returns true whatever the definition and the numbers; no condition but the reach. -/
import Derived.Test.YtdhljfblkidohaaGreatAw4
import Derived.Test.YtdhljfblkidohaaGreatLs0
import Derived.Test.YtdhljfblkidohaaGreatLs1
import Derived.Test.YtdhljfblkidohaaGreatLs2
import Derived.Test.YtdhljfblkidohaaGreatLs3
import Derived.Test.YtdhljfblkidohaaGreatLs4
import Derived.Test.YtdhljfblkidohaaGreatLs5
import Derived.Test.YtdhljfblkidohaaGreatLs6
import Derived.Test.YtdhljfblkidohaaGreatLs7
import Derived.Test.YtdhljfblkidohaaGreatLs8
import Derived.Test.YtdhljfblkidohaaGreatOpen
import Derived.Test.YtdhljfblkidohaaGreatRows
import Derived.ProofKit
import Derived.OpenShut
import Derived.ShutString
import Derived.ChangeOld
namespace Go.Proofs.YtdhljfblkidohaaGreat
set_option linter.unusedSimpArgs false
set_option linter.unusedVariables false
open Go.RowKit

theorem less_any {x : List Value} {a : Language} (which at_ part : Int) (w : World) (hx : Language.Is w w.heap.size x a) (hf : FreeE a) :
    Calls Tryz.prog 8 #[.agg x.toArray, .int .i64 which, .int .i64 at_, .int .i64 part] w (LessQ w a) := by
  have h := restN_lt which (n := 9) (by omega)
  rcases (by omega : restN which 9 = 0 ∨ restN which 9 = 1 ∨ restN which 9 = 2 ∨ restN which 9 = 3 ∨ restN which 9 = 4 ∨ restN which 9 = 5 ∨ restN which 9 = 6 ∨ restN which 9 = 7 ∨ restN which 9 = 8) with h | h | h | h | h | h | h | h | h
  · exact less_at0 which at_ part w hx hf h
  · exact less_at1 which at_ part w hx hf h
  · exact less_at2 which at_ part w hx hf h
  · exact less_at3 which at_ part w hx hf h
  · exact less_at4 which at_ part w hx hf h
  · exact less_at5 which at_ part w hx hf h
  · exact less_at6 which at_ part w hx hf h
  · exact less_at7 which at_ part w hx hf h
  · exact less_at8 which at_ part w hx hf h
set_option maxRecDepth 100000 in
set_option maxHeartbeats 4000000 in
theorem lawL_walk {x : List Value} {a : Language} (which at_ part : Int) (w : World) (hx : Language.Is w w.heap.size x a) :
    Calls Tryz.prog 3 #[.agg x.toArray, .int .i64 which, .int .i64 at_, .int .i64 part] w fun e w' => e = .returned (.bool true) ∧ Below w.heap.size w w' := by
  obtain ⟨a0, a1, a2, an2, ac2, a3, an3, ac3, a4, an4, ac4, a5, an5, ac5, a6, an6, ac6, a7, an7, ac7, rfl⟩ := Language.Is.shape _ _ hx
  have HX := Lib.hid hx
  have HL := Lib.hid (lens_of hx)
  have B0 : Hid (Blk (w.alloc (.cells #[.string a0, .int .i64 a1, .slice a2 an2 ac2, .slice a3 an3 ac3, .slice a4 an4 ac4, .slice a5 an5 ac5, .slice a6 an6 ac6, .slice a7 an7 ac7] 29)) w.heap.size 29 #[.string a0, .int .i64 a1, .slice a2 an2 ac2, .slice a3 an3 ac3, .slice a4 an4 ac4, .slice a5 an5 ac5, .slice a6 an6 ac6, .slice a7 an7 ac7]) := Lib.hid (Blk.new w _ _)
  have H0 : Hid (Below w.heap.size w (w.alloc (.cells #[.string a0, .int .i64 a1, .slice a2 an2 ac2, .slice a3 an3 ac3, .slice a4 an4 ac4, .slice a5 an5 ac5, .slice a6 an6 ac6, .slice a7 an7 ac7] 29))) := Lib.hid ((Below.refl w.heap.size w).alloc (Nat.le_refl _) _)
  clear hx
  have tokA : True := trivial
  have tokC : True := trivial
  go_enter Tryz.func3, Tryz.ntmps3
  try dsimp only [List.append]
  by_cases hfree : checkE a = ⟨0, 0, 0, 0⟩
  rotate_left
  · have hne := fun W => flt_neq hfree W
    go_wp2_with (first
      | (go_at_call 5; refine (awake_any _).mono ?_; rintro e w1 ⟨rfl, hb⟩; have H1 := Lib.hid (H0.out.trans (hb.mono H0.out.size)); have B1 := Lib.hid (B0.out.below hb B0.out.lt); have bk := B1.out; have ca0 : w1.cell? ⟨w.heap.size, 0, none⟩ = some (.string a0) := bk.cell (i := 0) rfl; have ca1 : w1.cell? ⟨w.heap.size, 1, none⟩ = some (.int .i64 a1) := bk.cell (i := 1) rfl; have ca2 : w1.cell? ⟨w.heap.size, 2, none⟩ = some (.slice a2 an2 ac2) := bk.cell (i := 2) rfl; have ca3 : w1.cell? ⟨w.heap.size, 3, none⟩ = some (.slice a3 an3 ac3) := bk.cell (i := 3) rfl; have ca4 : w1.cell? ⟨w.heap.size, 4, none⟩ = some (.slice a4 an4 ac4) := bk.cell (i := 4) rfl; have ca5 : w1.cell? ⟨w.heap.size, 5, none⟩ = some (.slice a5 an5 ac5) := bk.cell (i := 5) rfl; have ca6 : w1.cell? ⟨w.heap.size, 6, none⟩ = some (.slice a6 an6 ac6) := bk.cell (i := 6) rfl; have ca7 : w1.cell? ⟨w.heap.size, 7, none⟩ = some (.slice a7 an7 ac7) := bk.cell (i := 7) rfl; clear hb bk)
      | (go_at_call 6; refine (great_any _ _ HX.out H1.out).mono ?_; rintro e w2 ⟨g1, rfl, hb⟩; have H2 := Lib.hid (H1.out.trans (hb.mono H1.out.size)); have B2 := Lib.hid (B1.out.below hb B1.out.lt); clear ca0 ca1 ca2 ca3 ca4 ca5 ca6 ca7; have bk := B2.out; have ca0 : w2.cell? ⟨w.heap.size, 0, none⟩ = some (.string a0) := bk.cell (i := 0) rfl; have ca1 : w2.cell? ⟨w.heap.size, 1, none⟩ = some (.int .i64 a1) := bk.cell (i := 1) rfl; have ca2 : w2.cell? ⟨w.heap.size, 2, none⟩ = some (.slice a2 an2 ac2) := bk.cell (i := 2) rfl; have ca3 : w2.cell? ⟨w.heap.size, 3, none⟩ = some (.slice a3 an3 ac3) := bk.cell (i := 3) rfl; have ca4 : w2.cell? ⟨w.heap.size, 4, none⟩ = some (.slice a4 an4 ac4) := bk.cell (i := 4) rfl; have ca5 : w2.cell? ⟨w.heap.size, 5, none⟩ = some (.slice a5 an5 ac5) := bk.cell (i := 5) rfl; have ca6 : w2.cell? ⟨w.heap.size, 6, none⟩ = some (.slice a6 an6 ac6) := bk.cell (i := 6) rfl; have ca7 : w2.cell? ⟨w.heap.size, 7, none⟩ = some (.slice a7 an7 ac7) := bk.cell (i := 7) rfl; clear hb bk; cases g1)
      | (go_at_call 7; refine (check_any _ _ HX.out H2.out).mono ?_; rintro e w4 ⟨rfl, hb⟩; have H4 := Lib.hid (H2.out.trans (hb.mono H2.out.size)); clear hb)
      | fail)
    all_goals go_ret
    all_goals exact ⟨rfl, by first | exact H4.out | exact H2.out⟩
  · have HF := Lib.hid (check_free.1 hfree)
    have CA : Hid (∀ W, Below w.heap.size w W → Calls Tryz.prog 7 #[.agg #[.string a0, .int .i64 a1, .slice a2 an2 ac2, .slice a3 an3 ac3, .slice a4 an4 ac4, .slice a5 an5 ac5, .slice a6 an6 ac6, .slice a7 an7 ac7]] W fun e w' => e = .returned (fltV 0 0 0 0) ∧ Below W.heap.size W w') := Lib.hid (fun W hW => (check_any W w HX.out hW).mono fun e w' k => ⟨by rw [k.1, hfree]; rfl, k.2⟩)
    clear hfree
    go_wp2_with (first
      | (go_at_call 5; refine (awake_any _).mono ?_; rintro e w1 ⟨rfl, hb⟩; have H1 := Lib.hid (H0.out.trans (hb.mono H0.out.size)); have B1 := Lib.hid (B0.out.below hb B0.out.lt); have bk := B1.out; have ca0 : w1.cell? ⟨w.heap.size, 0, none⟩ = some (.string a0) := bk.cell (i := 0) rfl; have ca1 : w1.cell? ⟨w.heap.size, 1, none⟩ = some (.int .i64 a1) := bk.cell (i := 1) rfl; have ca2 : w1.cell? ⟨w.heap.size, 2, none⟩ = some (.slice a2 an2 ac2) := bk.cell (i := 2) rfl; have ca3 : w1.cell? ⟨w.heap.size, 3, none⟩ = some (.slice a3 an3 ac3) := bk.cell (i := 3) rfl; have ca4 : w1.cell? ⟨w.heap.size, 4, none⟩ = some (.slice a4 an4 ac4) := bk.cell (i := 4) rfl; have ca5 : w1.cell? ⟨w.heap.size, 5, none⟩ = some (.slice a5 an5 ac5) := bk.cell (i := 5) rfl; have ca6 : w1.cell? ⟨w.heap.size, 6, none⟩ = some (.slice a6 an6 ac6) := bk.cell (i := 6) rfl; have ca7 : w1.cell? ⟨w.heap.size, 7, none⟩ = some (.slice a7 an7 ac7) := bk.cell (i := 7) rfl; clear hb bk)
      | (go_at_call 6; have _t := tokA; refine (great_any _ _ HX.out H1.out).mono ?_; rintro e w2 ⟨g1, rfl, hb⟩; have H2 := Lib.hid (H1.out.trans (hb.mono H1.out.size)); have B2 := Lib.hid (B1.out.below hb B1.out.lt); clear ca0 ca1 ca2 ca3 ca4 ca5 ca6 ca7 tokA _t; have bk := B2.out; have ca0 : w2.cell? ⟨w.heap.size, 0, none⟩ = some (.string a0) := bk.cell (i := 0) rfl; have ca1 : w2.cell? ⟨w.heap.size, 1, none⟩ = some (.int .i64 a1) := bk.cell (i := 1) rfl; have ca2 : w2.cell? ⟨w.heap.size, 2, none⟩ = some (.slice a2 an2 ac2) := bk.cell (i := 2) rfl; have ca3 : w2.cell? ⟨w.heap.size, 3, none⟩ = some (.slice a3 an3 ac3) := bk.cell (i := 3) rfl; have ca4 : w2.cell? ⟨w.heap.size, 4, none⟩ = some (.slice a4 an4 ac4) := bk.cell (i := 4) rfl; have ca5 : w2.cell? ⟨w.heap.size, 5, none⟩ = some (.slice a5 an5 ac5) := bk.cell (i := 5) rfl; have ca6 : w2.cell? ⟨w.heap.size, 6, none⟩ = some (.slice a6 an6 ac6) := bk.cell (i := 6) rfl; have ca7 : w2.cell? ⟨w.heap.size, 7, none⟩ = some (.slice a7 an7 ac7) := bk.cell (i := 7) rfl; clear hb bk; cases g1)
      | (go_at_call 7; have _t := tokC; refine (CA.out _ H2.out).mono ?_; rintro e w4 ⟨rfl, hb⟩; have H4 : Hid (Below w.heap.size w w4) := Lib.hid (H2.out.trans (hb.mono H2.out.size)); have B4 : Hid (Blk w4 w.heap.size 29 #[.string a0, .int .i64 a1, .slice a2 an2 ac2, .slice a3 an3 ac3, .slice a4 an4 ac4, .slice a5 an5 ac5, .slice a6 an6 ac6, .slice a7 an7 ac7]) := Lib.hid (B2.out.below hb B2.out.lt); clear ca0 ca1 ca2 ca3 ca4 ca5 ca6 ca7 tokC _t; have bk := B4.out; have ca0 : w4.cell? ⟨w.heap.size, 0, none⟩ = some (.string a0) := bk.cell (i := 0) rfl; have ca1 : w4.cell? ⟨w.heap.size, 1, none⟩ = some (.int .i64 a1) := bk.cell (i := 1) rfl; have ca2 : w4.cell? ⟨w.heap.size, 2, none⟩ = some (.slice a2 an2 ac2) := bk.cell (i := 2) rfl; have ca3 : w4.cell? ⟨w.heap.size, 3, none⟩ = some (.slice a3 an3 ac3) := bk.cell (i := 3) rfl; have ca4 : w4.cell? ⟨w.heap.size, 4, none⟩ = some (.slice a4 an4 ac4) := bk.cell (i := 4) rfl; have ca5 : w4.cell? ⟨w.heap.size, 5, none⟩ = some (.slice a5 an5 ac5) := bk.cell (i := 5) rfl; have ca6 : w4.cell? ⟨w.heap.size, 6, none⟩ = some (.slice a6 an6 ac6) := bk.cell (i := 6) rfl; have ca7 : w4.cell? ⟨w.heap.size, 7, none⟩ = some (.slice a7 an7 ac7) := bk.cell (i := 7) rfl; clear hb bk)
      | (go_at_call 8; refine (less_any (x := [.string a0, .int .i64 a1, .slice a2 an2 ac2, .slice a3 an3 ac3, .slice a4 an4 ac4, .slice a5 an5 ac5, .slice a6 an6 ac6, .slice a7 an7 ac7]) (a := a) which at_ part _ (HX.out.keep (fun p hp => H4.out.cell hp) H4.out.size) HF.out).mono ?_; rintro e w5 ⟨x5, bl, d5, rfl, hI, hfr, hle, hb⟩; obtain ⟨e0, e1, e2, en2, ec2, e3, en3, ec3, e4, en4, ec4, e5, en5, ec5, e6, en6, ec6, e7, en7, ec7, rfl⟩ := Language.Is.shape _ _ hI; have H5 : Hid (Below w.heap.size w w5) := Lib.hid (H4.out.trans (hb.mono H4.out.size)); have B5 : Hid (Blk w5 w.heap.size 29 #[.string a0, .int .i64 a1, .slice a2 an2 ac2, .slice a3 an3 ac3, .slice a4 an4 ac4, .slice a5 an5 ac5, .slice a6 an6 ac6, .slice a7 an7 ac7]) := Lib.hid (B4.out.below hb B4.out.lt); have HI := Lib.hid hI; have HFR := Lib.hid hfr; have HLE := Lib.hid hle; clear ca0 ca1 ca2 ca3 ca4 ca5 ca6 ca7; have bk := B5.out; have ca0 : w5.cell? ⟨w.heap.size, 0, none⟩ = some (.string a0) := bk.cell (i := 0) rfl; have ca1 : w5.cell? ⟨w.heap.size, 1, none⟩ = some (.int .i64 a1) := bk.cell (i := 1) rfl; have ca2 : w5.cell? ⟨w.heap.size, 2, none⟩ = some (.slice a2 an2 ac2) := bk.cell (i := 2) rfl; have ca3 : w5.cell? ⟨w.heap.size, 3, none⟩ = some (.slice a3 an3 ac3) := bk.cell (i := 3) rfl; have ca4 : w5.cell? ⟨w.heap.size, 4, none⟩ = some (.slice a4 an4 ac4) := bk.cell (i := 4) rfl; have ca5 : w5.cell? ⟨w.heap.size, 5, none⟩ = some (.slice a5 an5 ac5) := bk.cell (i := 5) rfl; have ca6 : w5.cell? ⟨w.heap.size, 6, none⟩ = some (.slice a6 an6 ac6) := bk.cell (i := 6) rfl; have ca7 : w5.cell? ⟨w.heap.size, 7, none⟩ = some (.slice a7 an7 ac7) := bk.cell (i := 7) rfl; have lt5 := bk.lt; clear hb bk hI hfr hle)
      | fail)
    rotate_left
    · go_ret
      exact ⟨rfl, H2.out⟩
    generalize hW6 : World.alloc w5 _ = W6
    have b56 : Below w5.heap.size w5 W6 := by rw [← hW6]; exact (Below.refl _ _).alloc (Nat.le_refl _) _
    have BX6 : Hid (Blk W6 w5.heap.size 29 #[.string e0, .int .i64 e1, .slice e2 en2 ec2, .slice e3 en3 ec3, .slice e4 en4 ec4, .slice e5 en5 ec5, .slice e6 en6 ec6, .slice e7 en7 ec7]) := Lib.hid (by rw [← hW6]; exact Blk.new w5 _ _)
    have H6 : Hid (Below w.heap.size w W6) := Lib.hid (H5.out.trans (b56.mono H5.out.size))
    have B6 := Lib.hid (B5.out.below b56 B5.out.lt)
    have CK : Hid (Calls Tryz.prog 7 #[.agg #[.string e0, .int .i64 e1, .slice e2 en2 ec2, .slice e3 en3 ec3, .slice e4 en4 ec4, .slice e5 en5 ec5, .slice e6 en6 ec6, .slice e7 en7 ec7]] W6 fun e w' => e = .returned (fltV 0 0 0 0) ∧ Below W6.heap.size W6 w') := Lib.hid ((check_any _ _ HI.out b56).mono fun e w' k => ⟨by rw [k.1, check_free.2 HFR.out]; rfl, k.2⟩)
    have hl3 : an3 = a.concepts.length := HL.out.2.1
    have hl4 : en3 = d5.concepts.length := (lens_of HI.out).2.1
    have ce0 : W6.cell? ⟨w5.heap.size, 0, none⟩ = some (.string e0) := BX6.out.cell (i := 0) rfl
    have ce1 : W6.cell? ⟨w5.heap.size, 1, none⟩ = some (.int .i64 e1) := BX6.out.cell (i := 1) rfl
    have ce2 : W6.cell? ⟨w5.heap.size, 2, none⟩ = some (.slice e2 en2 ec2) := BX6.out.cell (i := 2) rfl
    have ce3 : W6.cell? ⟨w5.heap.size, 3, none⟩ = some (.slice e3 en3 ec3) := BX6.out.cell (i := 3) rfl
    have ce4 : W6.cell? ⟨w5.heap.size, 4, none⟩ = some (.slice e4 en4 ec4) := BX6.out.cell (i := 4) rfl
    have ce5 : W6.cell? ⟨w5.heap.size, 5, none⟩ = some (.slice e5 en5 ec5) := BX6.out.cell (i := 5) rfl
    have ce6 : W6.cell? ⟨w5.heap.size, 6, none⟩ = some (.slice e6 en6 ec6) := BX6.out.cell (i := 6) rfl
    have ce7 : W6.cell? ⟨w5.heap.size, 7, none⟩ = some (.slice e7 en7 ec7) := BX6.out.cell (i := 7) rfl
    have lt6 := BX6.out.lt
    clear hW6 b56 ca0 ca1 ca2 ca3 ca4 ca5 ca6 ca7
    cases bl
    · go_wp2_with (first
        | (go_at_call 7; refine CK.out.mono ?_; rintro e w7 ⟨rfl, hb⟩; have H7 : Hid (Below w.heap.size w w7) := Lib.hid (H6.out.trans (hb.mono H6.out.size)); clear hb)
        | fail)
      go_ret
      exact ⟨rfl, H7.out⟩
    · have hlen := HLE.out rfl
      have hge : (en3 : Int) ≤ (an3 : Int) := by omega
      have hge2 : ((an3 : Int) ≥ (en3 : Int)) := hge
      go_wp2_with (first
        | (go_at_call 7; refine CK.out.mono ?_; rintro e w7 ⟨rfl, hb⟩; have H7 : Hid (Below w.heap.size w w7) := Lib.hid (H6.out.trans (hb.mono H6.out.size)); have c73 : w7.cell? ⟨w.heap.size, 3, none⟩ = some (.slice a3 an3 ac3) := (B6.out.below hb B6.out.lt).cell (i := 3) rfl; have c93 : w7.cell? ⟨w5.heap.size, 3, none⟩ = some (.slice e3 en3 ec3) := (BX6.out.below hb BX6.out.lt).cell (i := 3) rfl; clear hb)
        | fail)
      go_ret
      exact ⟨by simp [hge], H7.out⟩

open Go.ChangeShapes Go.WideShapes Go.ChangeAt

theorem own : ownKnob Tryz.prog.godebug = none := by kernel_rfl
theorem laidOut : laidOutB Tryz.prog = true := by kernel_rfl

set_option maxRecDepth 100000 in
theorem lifted (os : Os) (started : os.Started) (H : Type) (enc : TypeId × Value → H) :
    ReturnsInHanded {} Tryz.checked os 3 .any (Rows.langLessSpec.pre6 enc Tryz.prog Tryz.f3 Rows.langLessRow.domain false) (Rows.langLessSpec.post enc Tryz.prog Tryz.f3 false true false false) := by
  refine returnsInHanded_of_change_sized (C := Tryz.checked) own started (by kernel_rfl) Tryz.func3
    (ChangeSpec.witness6 (enc := enc) (C := Tryz.checked) false ⟨#[], #[.agg #[.string ⟨#[]⟩, .int .i64 0, .slice none 0 0, .slice none 0 0, .slice none 0 0, .slice none 0 0, .slice none 0 0, .slice none 0 0], .int .i64 0, .int .i64 0, .int .i64 0], []⟩ 8 (by kernel_rfl) (by kernel_rfl) (by kernel_rfl) (by kernel_rfl)) ?_
  intro W base args ds gs before hval0 hW hcnd hwt _
  have hval : ∀ (j : Nat) t v, Tryz.f3.params[j]? = some t → args[j]? = some v → Value.okWide Tryz.prog W .any base t v := hval0
  have hW' := hW
  obtain ⟨p, q, hA0, hV, rfl, hfz, hnd⟩ := hW
  have hA : DataW.TrodAll enc Tryz.prog W 0 (fun _ => true) true Tryz.f3.params.toList args.toList ds p := hA0
  rw [Tryz.params3] at hA hval hwt
  obtain ⟨v0, vs0, d0, ds0, p0, q0, hargs, rfl, rfl, h0, r0⟩ := trodAll_cons hA
  obtain ⟨v1, vs1, d1, ds1, p1, q1, rfl, rfl, rfl, h1, r1⟩ := trodAll_cons r0
  obtain ⟨v2, vs2, d2, ds2, p2, q2, rfl, rfl, rfl, h2, r2⟩ := trodAll_cons r1
  obtain ⟨v3, vs3, d3, ds3, p3, q3, rfl, rfl, rfl, h3, r3⟩ := trodAll_cons r2
  obtain ⟨rfl, rfl, rfl⟩ := trodAll_nil r3
  obtain rfl : args = #[v0, v1, v2, v3] := by cases args; simp_all
  obtain ⟨rfl, rfl⟩ := trodVars_none hV
  obtain ⟨x0, rfl, _⟩ := okWide_struct Tryz.underlying29 (hval 0 29 v0 rfl rfl)
  obtain ⟨s1, rfl⟩ := okWide_int Tryz.underlying3 (hval 1 3 v1 rfl rfl)
  obtain ⟨s2, rfl⟩ := okWide_int Tryz.underlying3 (hval 2 3 v2 rfl rfl)
  obtain ⟨s3, rfl⟩ := okWide_int Tryz.underlying3 (hval 3 3 v3 rfl rfl)
  have k0 := h0
  have lt0 : ∀ x ∈ p0, x.block < W.heap.size := by obtain ⟨m, hm⟩ := k0; exact DataW.trod_lt m _ _ _ hm
  have k1 := h1
  have lt1 : ∀ x ∈ p1, x.block < W.heap.size := by obtain ⟨m, hm⟩ := k1; exact DataW.trod_lt m _ _ _ hm
  have k2 := h2
  have lt2 : ∀ x ∈ p2, x.block < W.heap.size := by obtain ⟨m, hm⟩ := k2; exact DataW.trod_lt m _ _ _ hm
  have k3 := h3
  have lt3 : ∀ x ∈ p3, x.block < W.heap.size := by obtain ⟨m, hm⟩ := k3; exact DataW.trod_lt m _ _ _ hm
  have L0 : Light Tryz.prog 29 d0 := fun n hn => by simpa using List.all_eq_true.1 hwt n (DataW.weights_mem_each (j := 0) rfl rfl n hn)
  obtain ⟨l0, X0⟩ : ∃ l, Language.Is W W.heap.size x0.toList l := by
    obtain ⟨fuel, hf⟩ := h0
    exact open_Language hf L0
  have B1 : (Lit.int .i64 s1).wf = true := by
    obtain ⟨fuel, hf⟩ := h1
    obtain ⟨s, e, _, b⟩ := DataW.trod_int Tryz.underlying3 hf
    simp [Value.cells] at e
    subst e
    exact b
  have B2 : (Lit.int .i64 s2).wf = true := by
    obtain ⟨fuel, hf⟩ := h2
    obtain ⟨s, e, _, b⟩ := DataW.trod_int Tryz.underlying3 hf
    simp [Value.cells] at e
    subst e
    exact b
  have B3 : (Lit.int .i64 s3).wf = true := by
    obtain ⟨fuel, hf⟩ := h3
    obtain ⟨s, e, _, b⟩ := DataW.trod_int Tryz.underlying3 hf
    simp [Value.cells] at e
    subst e
    exact b
  clear hA0 hval0
  have hwalk := lawL_walk s1 s2 s3 W X0
  rw [Array.toArray_toList] at hwalk
  refine hwalk.mono fun e W' ⟨he, bel⟩ => ?_
  subst he
  exact ⟨_, rfl, _, _, _, [], _, [], hW', trodAll_mk1 (shut_bool Tryz.underlying4 _), (trodAll_cons_mk (Below.trod laidOut (by kernel_rfl) (of_decide_eq_true (by kernel_rfl)) k0 bel lt0) (trodAll_cons_mk (Below.trod laidOut (by kernel_rfl) (of_decide_eq_true (by kernel_rfl)) k1 bel lt1) (trodAll_cons_mk (Below.trod laidOut (by kernel_rfl) (of_decide_eq_true (by kernel_rfl)) k2 bel lt2) (trodAll_cons_mk (Below.trod laidOut (by kernel_rfl) (of_decide_eq_true (by kernel_rfl)) k3 bel lt3) trodAll_mk0)))), rfl, bel.frame _, fun h => by cases h⟩

theorem over : Rows.langLessRow.holds Tryz.pinned (OpenSpec.ofChange Rows.langLessSpec) :=
  OpenClaim.holds_of_wide 3 Tryz.f3 rfl rfl rfl rfl rfl rfl rfl ⟨rfl, rfl, rfl, rfl, rfl⟩ rfl rfl rfl rfl rfl (by kernel_rfl) Tryz.func3 (by kernel_rfl)
    (of_decide_eq_true (by kernel_rfl)) (by unfold Func.isWrapper; first | (rw [if_pos (by decide +kernel)]; kernel_rfl) | (rw [if_neg (by decide +kernel)]; exact ⟨rfl, rfl⟩))
    (fun os started H enc _ => lifted os started H enc)

theorem langLess_holds : Rows.LangLessSaid := over
#print axioms langLess_holds
end Go.Proofs.YtdhljfblkidohaaGreat
