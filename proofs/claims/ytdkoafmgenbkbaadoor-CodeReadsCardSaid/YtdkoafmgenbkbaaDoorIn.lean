/- Chapter 11: ins, for every instruction that is right by itself. -/
import Derived.Test.YtdkoafmgenbkbaaDoorIn1
import Derived.Test.YtdkoafmgenbkbaaDoorIn2
import Derived.Test.YtdkoafmgenbkbaaDoorIn3
import Derived.Test.YtdkoafmgenbkbaaDoorIn4
import Derived.Test.YtdkoafmgenbkbaaDoorIn5
import Derived.Test.YtdkoafmgenbkbaaDoorIn6
import Derived.Test.YtdkoafmgenbkbaaDoorIn7
namespace Go.Proofs.YtdkoafmgenbkbaaDoor
set_option linter.unusedSimpArgs false
set_option linter.unusedVariables false
open Go.RowKit

theorem ins_any {W0 W : World} {k g n c : Nat} {la : Option Addr} {ln lc : Nat} {cl : List Ins} {l : List Pl} {i : Nat} {p : Pl} (x : Ins) (h1 : 1 ≤ x.op) (h2 : x.op ≤ 40) (I : InsPre W0 W k g n c la ln lc cl l i p x.arg) :
    Calls Tryd.prog 19 #[.pointer (some ⟨k, 0, none⟩), .int .i64 i, .agg #[.int .i64 x.op, .int .i64 x.arg, .int .i64 x.int, .string x.text]] W (LedTo W g (insN cl l i p x)) := by
  obtain ⟨op, arg, int, text⟩ := x
  simp only at h1 h2 I ⊢
  by_cases hl : p.loops = []
  · rcases (by omega : op = 1 ∨ op = 2 ∨ op = 3 ∨ op = 4 ∨ op = 5 ∨ op = 6 ∨ op = 7 ∨ op = 8 ∨ op = 9 ∨ op = 10 ∨ op = 11 ∨ op = 12 ∨ op = 13 ∨ op = 14 ∨ op = 15 ∨ op = 16 ∨ op = 17 ∨ op = 18 ∨ op = 19 ∨ op = 20 ∨ op = 21 ∨ op = 22 ∨ op = 23 ∨ op = 24 ∨ op = 25 ∨ op = 26 ∨ op = 27 ∨ op = 28 ∨ op = 29 ∨ op = 30 ∨ op = 31 ∨ op = 32 ∨ op = 33 ∨ op = 34 ∨ op = 35 ∨ op = 36 ∨ op = 37 ∨ op = 38 ∨ op = 39 ∨ op = 40) with rfl | rfl | rfl | rfl | rfl | rfl | rfl | rfl | rfl | rfl | rfl | rfl | rfl | rfl | rfl | rfl | rfl | rfl | rfl | rfl | rfl | rfl | rfl | rfl | rfl | rfl | rfl | rfl | rfl | rfl | rfl | rfl | rfl | rfl | rfl | rfl | rfl | rfl | rfl | rfl
    · exact ins_1_e int text I hl
    · exact ins_g2_e (by omega) int text I hl
    · exact ins_g2_e (by omega) int text I hl
    · exact ins_g2_e (by omega) int text I hl
    · exact ins_g2_e (by omega) int text I hl
    · exact ins_g2_e (by omega) int text I hl
    · exact ins_g2_e (by omega) int text I hl
    · exact ins_8_e int text I hl
    · exact ins_g2_e (by omega) int text I hl
    · exact ins_d4_e (by omega) int text I hl
    · exact ins_d4_e (by omega) int text I hl
    · exact ins_d4_e (by omega) int text I hl
    · exact ins_d0_e (by omega) int text I hl
    · exact ins_d4_e (by omega) int text I hl
    · exact ins_d4_e (by omega) int text I hl
    · exact ins_d0_e (by omega) int text I hl
    · exact ins_d0_e (by omega) int text I hl
    · exact ins_d0_e (by omega) int text I hl
    · exact ins_d0_e (by omega) int text I hl
    · exact ins_d0_e (by omega) int text I hl
    · exact ins_d0_e (by omega) int text I hl
    · exact ins_g22_e (by omega) int text I hl
    · exact ins_g22_e (by omega) int text I hl
    · exact ins_g22_e (by omega) int text I hl
    · exact ins_g22_e (by omega) int text I hl
    · exact ins_g22_e (by omega) int text I hl
    · exact ins_g22_e (by omega) int text I hl
    · exact ins_g22_e (by omega) int text I hl
    · exact ins_29_e int text I hl
    · exact ins_g30_e (by omega) int text I hl
    · exact ins_g30_e (by omega) int text I hl
    · exact ins_32_e int text I hl
    · exact ins_33_e int text I hl
    · exact ins_34_e int text I hl
    · exact ins_g35_e (by omega) int text I hl
    · exact ins_g35_e (by omega) int text I hl
    · exact ins_g35_e (by omega) int text I hl
    · exact ins_g35_e (by omega) int text I hl
    · exact ins_39_e int text I hl
    · exact ins_40_e int text I hl
  · rcases (by omega : op = 1 ∨ op = 2 ∨ op = 3 ∨ op = 4 ∨ op = 5 ∨ op = 6 ∨ op = 7 ∨ op = 8 ∨ op = 9 ∨ op = 10 ∨ op = 11 ∨ op = 12 ∨ op = 13 ∨ op = 14 ∨ op = 15 ∨ op = 16 ∨ op = 17 ∨ op = 18 ∨ op = 19 ∨ op = 20 ∨ op = 21 ∨ op = 22 ∨ op = 23 ∨ op = 24 ∨ op = 25 ∨ op = 26 ∨ op = 27 ∨ op = 28 ∨ op = 29 ∨ op = 30 ∨ op = 31 ∨ op = 32 ∨ op = 33 ∨ op = 34 ∨ op = 35 ∨ op = 36 ∨ op = 37 ∨ op = 38 ∨ op = 39 ∨ op = 40) with rfl | rfl | rfl | rfl | rfl | rfl | rfl | rfl | rfl | rfl | rfl | rfl | rfl | rfl | rfl | rfl | rfl | rfl | rfl | rfl | rfl | rfl | rfl | rfl | rfl | rfl | rfl | rfl | rfl | rfl | rfl | rfl | rfl | rfl | rfl | rfl | rfl | rfl | rfl | rfl
    · exact ins_1_n int text I hl
    · exact ins_g2_n (by omega) int text I hl
    · exact ins_g2_n (by omega) int text I hl
    · exact ins_g2_n (by omega) int text I hl
    · exact ins_g2_n (by omega) int text I hl
    · exact ins_g2_n (by omega) int text I hl
    · exact ins_g2_n (by omega) int text I hl
    · exact ins_8_n int text I hl
    · exact ins_g2_n (by omega) int text I hl
    · exact ins_d4_n (by omega) int text I hl
    · exact ins_d4_n (by omega) int text I hl
    · exact ins_d4_n (by omega) int text I hl
    · exact ins_d0_n (by omega) int text I hl
    · exact ins_d4_n (by omega) int text I hl
    · exact ins_d4_n (by omega) int text I hl
    · exact ins_d0_n (by omega) int text I hl
    · exact ins_d0_n (by omega) int text I hl
    · exact ins_d0_n (by omega) int text I hl
    · exact ins_d0_n (by omega) int text I hl
    · exact ins_d0_n (by omega) int text I hl
    · exact ins_d0_n (by omega) int text I hl
    · exact ins_g22_n (by omega) int text I hl
    · exact ins_g22_n (by omega) int text I hl
    · exact ins_g22_n (by omega) int text I hl
    · exact ins_g22_n (by omega) int text I hl
    · exact ins_g22_n (by omega) int text I hl
    · exact ins_g22_n (by omega) int text I hl
    · exact ins_g22_n (by omega) int text I hl
    · exact ins_29_n int text I hl
    · exact ins_g30_n (by omega) int text I hl
    · exact ins_g30_n (by omega) int text I hl
    · exact ins_32_n int text I hl
    · exact ins_33_n int text I hl
    · exact ins_34_n int text I hl
    · exact ins_g35_n (by omega) int text I hl
    · exact ins_g35_n (by omega) int text I hl
    · exact ins_g35_n (by omega) int text I hl
    · exact ins_g35_n (by omega) int text I hl
    · exact ins_39_n int text I hl
    · exact ins_40_n int text I hl
end Go.Proofs.YtdkoafmgenbkbaaDoor
