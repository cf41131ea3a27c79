/- The chapter's four languages, in plain words: what the row is, what goes with one, where a fault is. -/
import Derived.Test.YtikplcpghohklaaGreatModRow
import Derived.Test.YtikplcpghohklaaGreatModMore
namespace Go.Proofs.YtikplcpghohklaaGreat
set_option linter.unusedSimpArgs false
set_option linter.unusedVariables false
open Go.RowKit

abbrev tx (n : UInt8) : ByteArray := ⟨#[n]⟩
def la : Language := ⟨tx 97, 1, [], [], [], [], [], []⟩
def lb : Language := ⟨tx 98, 1, [tx 97], [], [], [], [], []⟩
def lc : Language := ⟨tx 99, 1, [tx 97, tx 98], [], [], [], [], []⟩
def ld : Language := ⟨tx 100, 1, [tx 99], [], [], [], [], []⟩
def fourL : List Language := [la, lb, lc, ld]
def backL : List Language := [ld, lc, lb, la]
theorem chk_a : checkE la = ⟨0, 0, 0, 0⟩ := by kernel_rfl
theorem four_alone : firstF aloneF 0 fourL = none := by kernel_rfl
theorem back_alone : firstF aloneF 0 backL = none := by kernel_rfl
theorem four_named : firstF (namedF fourL) 0 fourL = none := by kernel_rfl
theorem back_named : firstF (namedF backL) 0 backL = none := by kernel_rfl
theorem four_used : firstF (usedF fourL) 0 fourL = none := by kernel_rfl
theorem back_used : firstF (usedF backL) 0 backL = none := by kernel_rfl
theorem four_web : webN fourL = [[], [0], [0, 1], [2]] := by kernel_rfl
theorem back_web : webN backL = [[1], [3, 2], [3], []] := by kernel_rfl
theorem reach_up {us : Web} (h : ∀ a b, Edge us a b → a < b) {a b : Nat} (r : Reach us a b) : a < b := by
  induction r with
  | one e => exact h _ _ e
  | more _ e ih => have := h _ _ e; omega
theorem reach_dn {us : Web} (h : ∀ a b, Edge us a b → b < a) {a b : Nat} (r : Reach us a b) : b < a := by
  induction r with
  | one e => exact h _ _ e
  | more _ e ih => have := h _ _ e; omega
theorem ring_none {ls : List Language} (h : ∀ a, ¬ Reach (webN ls) a a) : firstF (ringF ls) 0 ls = none := by
  refine firstF_all ls 0 (fun i l hl => ?_)
  unfold ringF
  refine firstF_all _ 0 (fun k s hs => ?_)
  unfold ringG
  rw [if_neg (fun hr => h _ (Reach.head (use_edge hl (List.mem_iff_getElem?.2 ⟨k, hs⟩)) (by rw [Nat.zero_add] at hr; exact hr)))]
theorem four_edge (a b : Nat) (h : Edge (webN fourL) a b) : b < a := by
  rw [four_web] at h
  obtain ⟨l, h1, h2⟩ := h
  rcases a with _ | _ | _ | _ | a <;> simp at h1 <;> subst h1 <;> simp at h2 <;> omega
theorem back_edge (a b : Nat) (h : Edge (webN backL) a b) : a < b := by
  rw [back_web] at h
  obtain ⟨l, h1, h2⟩ := h
  rcases a with _ | _ | _ | _ | a <;> simp at h1 <;> subst h1 <;> simp at h2 <;> omega
theorem four_fault : faultN fourL = none := fault_of (by decide) four_alone four_named four_used (ring_none fun a r => absurd (reach_dn four_edge r) (Nat.lt_irrefl _))
theorem back_fault : faultN backL = none := fault_of (by decide) back_alone back_named back_used (ring_none fun a r => absurd (reach_up back_edge r) (Nat.lt_irrefl _))
theorem back_row : rowN (webN backL) = [3, 2, 1, 0] := by rw [back_web]; kernel_rfl
theorem four_row : rowN (webN fourL) = [0, 1, 2, 3] := by rw [four_web]; kernel_rfl
theorem mid_fault : faultN [lb, lc] = some ⟨1, 0, 0, 240⟩ := by
  have h1 : firstF aloneF 0 [lb, lc] = none := by kernel_rfl
  have h2 : firstF (namedF [lb, lc]) 0 [lb, lc] = none := by kernel_rfl
  have h3 : firstF (usedF [lb, lc]) 0 [lb, lc] = some ⟨1, 0, 0, 240⟩ := by kernel_rfl
  unfold faultN
  rw [if_neg (by decide), h1, h2, h3]
theorem back_find : findN backL (tx 98) = ((2 : Nat) : Int) := by kernel_rfl
theorem four_find : findN fourL (tx 97) = ((0 : Nat) : Int) := by kernel_rfl
theorem four_nox : findN fourL (tx 120) = -1 := by kernel_rfl
theorem back_close : closeN backL 2 = [3, 2] := by
  classical
  have h3 : Reach (webN backL) 2 3 := by rw [back_web]; exact .one ⟨[3], rfl, by simp⟩
  have h1 : ¬ Reach (webN backL) 2 1 := fun r => by have := reach_up back_edge r; omega
  have h0 : ¬ Reach (webN backL) 2 0 := fun r => by have := reach_up back_edge r; omega
  unfold closeN
  rw [back_row, List.filter_cons_of_pos (by simp [h3]), List.filter_cons_of_pos (by simp), List.filter_cons_of_neg (by simp [h1]), List.filter_cons_of_neg (by simp [h0])]
  rfl
theorem four_close : closeN fourL 0 = [0] := by
  classical
  have hn : ∀ k, ¬ Reach (webN fourL) 0 k := fun k r => by have := reach_dn four_edge r; omega
  unfold closeN
  rw [four_row, List.filter_cons_of_pos (by simp), List.filter_cons_of_neg (by simp [hn]), List.filter_cons_of_neg (by simp [hn]), List.filter_cons_of_neg (by simp [hn])]
  rfl
end Go.Proofs.YtikplcpghohklaaGreat
