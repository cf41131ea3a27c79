/- - - -/
import Derived.Test.YtpkggobhhieeoaaDoorKLRd9
import Derived.Test.YtpkggobhhieeoaaDoorKLRd6
import Derived.Test.YtpkggobhhieeoaaDoorKM4
set_option maxRecDepth 100000
set_option maxHeartbeats 32000000
set_option linter.unusedSimpArgs false
set_option linter.unusedVariables false
namespace Go.Proofs.YtpkggobhhieeoaaDoor
open Go.RowKit
theorem r_all (q : Nat) (a : Option Addr) (c sz : Nat) (l : List Tok) : ∀ F f : Nat, f ≤ F → RLevel q a c sz l 46 [.int .i64 1] (fun i => pL l f 1 i) ∧ RLevel q a c sz l 46 [.int .i64 2] (fun i => pL l f 2 i) ∧ RLevel q a c sz l 46 [.int .i64 3] (fun i => pL l f 3 i) ∧ RLevel q a c sz l 46 [.int .i64 4] (fun i => pL l f 4 i) ∧ RLevel q a c sz l 46 [.int .i64 5] (fun i => pL l f 5 i) ∧ RLevel q a c sz l 46 [.int .i64 6] (fun i => pL l f 6 i) ∧ RLevel q a c sz l 46 [.int .i64 7] (fun i => pL l f 7 i) ∧ RLevel q a c sz l 85 [] (fun i => pP l f i) := by
  have zero : ∀ (fn : FuncId) (args : List Value) (n : Nat), RLevel q a c sz l fn args (fun i => pL l 0 n i) := fun fn args n i es X h he hr => absurd (by simp only [pL]) hr
  intro F
  induction F with
  | zero =>
    intro f hf
    obtain rfl : f = 0 := by omega
    exact ⟨zero _ _ _, zero _ _ _, zero _ _ _, zero _ _ _, zero _ _ _, zero _ _ _, zero _ _ _, fun i es X h he hr => absurd (by simp only [pP]) hr⟩
  | succ F ih =>
    intro f hf
    rcases Nat.lt_or_ge f (F + 1) with h1 | h1
    · exact ih f (by omega)
    · obtain rfl : f = F + 1 := by omega
      have hF := ih F zL
      exact ⟨r_row_1 F (fun f' h => (ih f' h).2.1), r_row_2 F (fun f' h => (ih f' h).2.2.1), r_three F hF.2.2.1 hF.2.2.2.1, r_row_4 F (fun f' h => (ih f' h).2.2.2.2.1), r_row_5 F (fun f' h => (ih f' h).2.2.2.2.2.1), r_row_6 F (fun f' h => (ih f' h).2.2.2.2.2.2.1), r_seven F (r_post F hF.2.2.2.2.2.2.2), r_prim F hF.1⟩
theorem r_top {q : Nat} {a : Option Addr} {c sz : Nat} {l : List Tok} {X : World} (h : RSt q a c sz l 0 (-1) [] X) : Calls Tryd.prog 46 #[.pointer (some ⟨q, 0, none⟩), .int .i64 1] X (RReads q a c sz l 0 [] X (pL l (12 * l.length + 10) 1 0)) := by
  refine (r_all q a c sz l (12 * l.length + 10) (12 * l.length + 10) zL).1 0 [] X h zL ?_
  intro e
  have := parse_told l
  simp only at e
  rw [e] at this
  exact this
end Go.Proofs.YtpkggobhhieeoaaDoor
namespace Go.Proofs.YtpkggobhhieeoaaDoor
section
variable {l : List Tok}
def RP (l : List Tok) (a : Nat) (r : PR) : Prop := ∃ f0, ∀ f, f0 ≤ f → pP l f a = r
end
end Go.Proofs.YtpkggobhhieeoaaDoor
