/- What the laws of chapter 24 share: Order's answers, the row's facts. -/
import Derived.Test.YtikplcpghohklaaGreatZAwake
import Derived.Test.YtikplcpghohklaaGreatZ0
namespace Go.Proofs.YtikplcpghohklaaGreat
set_option linter.unusedSimpArgs false
set_option linter.unusedVariables false
open Go.RowKit

theorem order_fault {ls : List Language} {v : Value} {f : Flt} (hf : faultN ls = some f) (w w0 : World) (hs : LsR w0 w0.heap.size v ls) (hw : Below w0.heap.size w0 w) :
    Calls Tryz.prog 10 #[v] w fun e w' => e = .returned (.tuple #[.slice none 0 0, .agg #[.int .i64 (f.list : Int), .int .i64 (f.at_ : Int), .int .i64 (f.part : Int), .int .i64 (f.err : Int)]]) ∧ Below w.heap.size w w' :=
  (m_Order w w0 hs hw).mono fun e w' h => by
    unfold MOPost at h
    rw [hf] at h
    exact h
theorem order_none {ls : List Language} {v : Value} (hf : faultN ls = none) (w w0 : World) (hs : LsR w0 w0.heap.size v ls) (hw : Below w0.heap.size w0 w) :
    Calls Tryz.prog 10 #[v] w fun e w' => (∃ a c, e = .returned (.tuple #[.slice a ls.length c, .agg #[.int .i64 0, .int .i64 0, .int .i64 0, .int .i64 0]]) ∧ SlR w' w'.heap.size 1 IsInt (.slice a ls.length c) ((rowN (webN ls)).map fun (n : Nat) => (n : Int))) ∧ Below w.heap.size w w' :=
  (m_Order w w0 hs hw).mono fun e w' h => by
    unfold MOPost at h
    rw [hf] at h
    exact h
/-- the parts of 'no fault', for the row -/
theorem row_facts {ls : List Language} (hf : faultN ls = none) : RowG (webN ls) (rowN (webN ls)) ∧ (rowN (webN ls)).length = ls.length ∧ (∀ n, n < ls.length → ∃ i : Nat, (rowN (webN ls))[i]? = some n) ∧ AllFound ls := by
  have hfo := (found_ok hf).1
  have hac := acyc_of (ring_ok hf)
  have hin : ∀ a b, Edge (webN ls) a b → b < (webN ls).length := by rw [webN_len]; exact webN_in ls hfo
  refine ⟨rowN_good _, by rw [rowN_len hac hin, webN_len], fun n hn => ?_, hfo⟩
  exact List.mem_iff_getElem?.1 (rowN_all hac hin (by rw [webN_len]; exact hn))
end Go.Proofs.YtikplcpghohklaaGreat
