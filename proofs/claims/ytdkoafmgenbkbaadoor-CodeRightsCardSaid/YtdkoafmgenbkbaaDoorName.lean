/- Names' bytes and names, as plain functions. -/
import Derived.Test.YtdkoafmgenbkbaaDoorNum
namespace Go.Proofs.YtdkoafmgenbkbaaDoor
set_option linter.unusedSimpArgs false
set_option linter.unusedVariables false

def letterN (n : Nat) : Bool := decide ((65 ≤ n ∧ n ≤ 90) ∨ (97 ≤ n ∧ n ≤ 122))
def furtherN (n : Nat) : Bool := letterN n || decide ((48 ≤ n ∧ n ≤ 57) ∨ n = 95)
def rightN (l : List Nat) : Bool := match l with
  | [] => false
  | c :: t => decide ((c :: t).length ≤ 32) && letterN c && (c :: t).all furtherN
end Go.Proofs.YtdkoafmgenbkbaaDoor
