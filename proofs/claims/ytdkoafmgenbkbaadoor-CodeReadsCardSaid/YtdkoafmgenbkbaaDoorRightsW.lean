/- Chapter 11, the reference's stands and Right. -/
import Derived.Test.YtdkoafmgenbkbaaDoorSt1
import Derived.Test.YtdkoafmgenbkbaaDoorSt2
import Derived.Test.YtdkoafmgenbkbaaDoorSt3
import Derived.Test.YtdkoafmgenbkbaaDoorSt4
import Derived.Test.YtdkoafmgenbkbaaDoorSt5
import Derived.Test.YtdkoafmgenbkbaaDoorSt6
import Derived.Test.YtdkoafmgenbkbaaDoorSt7
import Derived.Test.YtdkoafmgenbkbaaDoorMRc
namespace Go.Proofs.YtdkoafmgenbkbaaDoor
set_option linter.unusedSimpArgs false
set_option linter.unusedVariables false
open Go.RowKit

theorem stands_is : StandsIs := by
  intro W0 W g n c la ln lc cl l i p x hpl I
  have ho := plain_ops hpl
  obtain ⟨op, arg, int, text⟩ := x
  simp only at ho
  have hg : (op = 1) ∨ (op = 2 ∨ op = 3 ∨ op = 4 ∨ op = 5 ∨ op = 6 ∨ op = 7 ∨ op = 9) ∨ (op = 8) ∨ (op = 22 ∨ op = 23 ∨ op = 24 ∨ op = 25 ∨ op = 26 ∨ op = 27 ∨ op = 28) ∨ (op = 30 ∨ op = 31) ∨ (op = 33) ∨ (op = 34) ∨ (op = 35 ∨ op = 36 ∨ op = 37 ∨ op = 38) ∨ (op = 39) ∨ (op = 40) ∨ (op = 10 ∨ op = 11 ∨ op = 12 ∨ op = 13 ∨ op = 14 ∨ op = 15 ∨ op = 16 ∨ op = 17 ∨ op = 18 ∨ op = 19 ∨ op = 20 ∨ op = 21 ∨ op = 29 ∨ op = 32) := by omega
  by_cases hl : p.loops = []
  · rcases hg with h | h | h | h | h | h | h | h | h | h | h
    · exact st_a_e h int text I hl
    · exact st_b_e h int text I hl
    · exact st_c_e h int text I hl
    · exact st_d_e h int text I hl
    · exact st_e_e h int text I hl
    · exact st_f_e h int text I hl
    · exact st_g_e h int text I hl
    · exact st_h_e h int text I hl
    · exact st_i_e h int text I hl
    · exact st_j_e h int text I hl
    · exact st_k_e h int text I hl
  · rcases hg with h | h | h | h | h | h | h | h | h | h | h
    · exact st_a_n h int text I hl
    · exact st_b_n h int text I hl
    · exact st_c_n h int text I hl
    · exact st_d_n h int text I hl
    · exact st_e_n h int text I hl
    · exact st_f_n h int text I hl
    · exact st_g_n h int text I hl
    · exact st_h_n h int text I hl
    · exact st_i_n h int text I hl
    · exact st_j_n h int text I hl
    · exact st_k_n h int text I hl
theorem right_is : RightIs := fun cl v W W0 hs hw => rright_of stands_is W W0 hs hw
end Go.Proofs.YtdkoafmgenbkbaaDoor
