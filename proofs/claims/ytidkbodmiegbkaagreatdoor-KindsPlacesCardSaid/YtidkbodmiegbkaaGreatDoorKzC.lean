/- Chapter 09, outright: the expressions of the statements' beginning, in plain words. -/
import Derived.Test.YtidkbodmiegbkaaGreatDoorKzB
import Derived.Test.YtidkbodmiegbkaaGreatDoorKfE
namespace Go.Proofs.YtidkbodmiegbkaaGreatDoor
set_option linter.unusedSimpArgs false
set_option linter.unusedVariables false
open Go.RowKit

mutual
/-- is a tree one of nodes that may be? -/
def goodB : Tr → Bool
  | .node k s n ks => mayE ⟨(k : Int), s, n, ks.map fun _ => 0⟩ && s.all (fun x => decide (x < 256)) && decide (-9223372036854775808 ≤ n) && decide (n ≤ 9223372036854775807) && goodLB ks
def goodLB : List Tr → Bool
  | [] => true
  | t :: ts => goodB t && goodLB ts
end
mutual
theorem good_b : ∀ (t : Tr), goodB t = true → t.Good
  | .node k s n ks, h => by
    simp only [goodB, Bool.and_eq_true, decide_eq_true_eq, List.all_eq_true] at h
    obtain ⟨⟨⟨⟨h1, h2⟩, h3⟩, h4⟩, h5⟩ := h
    exact ⟨⟨shape_of (by simp) h1, h2, h3, h4⟩, good_lb ks h5⟩
theorem good_lb : ∀ (ts : List Tr), goodLB ts = true → GoodL ts
  | [], _ => trivial
  | t :: ts, h => by
    simp only [goodLB, Bool.and_eq_true] at h
    exact ⟨good_b t h.1, good_lb ts h.2⟩
end
def aw1 : Tr := .node 8 [110, 97, 109, 101] 0 [.node 15 [] 0 [.node 9 [105, 116, 101, 109] 0 [.node 5 [] 0 []]]]
theorem aw1_parse : parseN [102, 105, 114, 115, 116, 40, 115, 101, 108, 102, 35, 105, 116, 101, 109, 41, 46, 110, 97, 109, 101] = (aw1.flat 0, 0, 0) := by decide +kernel
theorem aw1_good : aw1.Good := good_b _ (by decide +kernel)
theorem aw1_size : aw1.size = 4 ∧ aw1.deep ≤ 32 := by decide +kernel
def aw2 : Tr := .node 31 [120] 0 [.node 9 [105, 116, 101, 109] 0 [.node 7 [120] 0 []], .node 3 [] 0 []]
theorem aw2_parse : parseN [97, 110, 121, 32, 120, 32, 105, 110, 32, 120, 35, 105, 116, 101, 109, 58, 32, 116, 114, 117, 101, 32, 101, 110, 100] = (aw2.flat 0, 0, 0) := by decide +kernel
theorem aw2_good : aw2.Good := good_b _ (by decide +kernel)
theorem aw2_size : aw2.size = 4 ∧ aw2.deep ≤ 32 := by decide +kernel
def aw3 : Tr := .node 30 [] 0 [.node 1 [] 1 [], .node 7 [120] 0 [], .node 1 [] 2 []]
theorem aw3_parse : parseN [105, 102, 32, 49, 32, 116, 104, 101, 110, 32, 120, 32, 101, 108, 115, 101, 32, 50, 32, 101, 110, 100] = (aw3.flat 0, 0, 0) := by decide +kernel
theorem aw3_good : aw3.Good := good_b _ (by decide +kernel)
theorem aw3_size : aw3.size = 4 ∧ aw3.deep ≤ 32 := by decide +kernel
def aw4 : Tr := .node 20 [] 0 [.node 1 [] 1 [], .node 2 [97] 0 []]
theorem aw4_parse : parseN [49, 32, 43, 32, 34, 97, 34] = (aw4.flat 0, 0, 0) := by decide +kernel
theorem aw4_good : aw4.Good := good_b _ (by decide +kernel)
theorem aw4_size : aw4.size = 3 ∧ aw4.deep ≤ 32 := by decide +kernel
def aw5 : Tr := .node 20 [] 0 [.node 8 [97] 0 [.node 7 [120] 0 []], .node 31 [121] 0 [.node 7 [122] 0 [], .node 23 [] 0 [.node 7 [121] 0 [], .node 7 [120] 0 []]]]
theorem aw5_parse : parseN [120, 46, 97, 32, 43, 32, 40, 97, 110, 121, 32, 121, 32, 105, 110, 32, 122, 58, 32, 121, 32, 61, 61, 32, 120, 32, 101, 110, 100, 41] = (aw5.flat 0, 0, 0) := by decide +kernel
theorem aw5_good : aw5.Good := good_b _ (by decide +kernel)
theorem aw5_size : aw5.size = 8 ∧ aw5.deep ≤ 32 := by decide +kernel
def aw6 : Tr := .node 25 [] 0 [.node 14 [] 0 [.node 9 [97] 0 [.node 5 [] 0 []]], .node 1 [] 2 []]
theorem aw6_parse : parseN [115, 105, 122, 101, 40, 115, 101, 108, 102, 35, 97, 41, 32, 60, 32, 50] = (aw6.flat 0, 0, 0) := by decide +kernel
theorem aw6_good : aw6.Good := good_b _ (by decide +kernel)
theorem aw6_size : aw6.size = 5 ∧ aw6.deep ≤ 32 := by decide +kernel
theorem aw1_kind : kindT aw1 = 2 ∧ atN aw1 = 0 ∧ errN (ndsT aw1 0) aw1 = 0 := by decide +kernel
theorem aw2_kind : kindT aw2 = 0 ∧ atN aw2 = 2 ∧ errN (ndsT aw2 0) aw2 = 91 := by decide +kernel
theorem aw3_kind : kindT aw3 = 0 ∧ atN aw3 = 2 ∧ errN (ndsT aw3 0) aw3 = 91 := by decide +kernel
theorem aw4_kind : kindT aw4 = 0 ∧ atN aw4 = 0 ∧ errN (ndsT aw4 0) aw4 = 90 := by decide +kernel
theorem aw6_kinds : kindsT aw6 = [3, 1, 5, 4, 1] ∧ atN aw6 = 0 ∧ errN (ndsT aw6 0) aw6 = 0 := by decide +kernel
theorem aw5_free : FreeL (frR 32 aw5 [] []) [⟨#[120]⟩, ⟨#[122]⟩] := by
  have e : frR 32 aw5 [] [] = [[120], [122], [120]] := by decide +kernel
  rw [e]
  refine ⟨by decide, fun b => ?_⟩
  simp [bsL, bsN, txt]
  constructor
  · rintro (h | h)
    · exact .inl h
    · exact .inr (.inl h)
  · rintro (h | h | h)
    · exact .inl h
    · exact .inr h
    · exact .inl h
end Go.Proofs.YtidkbodmiegbkaaGreatDoor
