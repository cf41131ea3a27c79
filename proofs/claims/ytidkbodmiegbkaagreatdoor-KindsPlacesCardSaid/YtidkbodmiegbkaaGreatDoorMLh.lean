/- Taken over out of another chapter (its text Lh): what is needed here. -/
import Derived.Test.YtidkbodmiegbkaaGreatDoorLK
import Derived.Test.YtidkbodmiegbkaaGreatDoorCards
import Derived.Test.YtidkbodmiegbkaaGreatDoorTie
import Derived.Test.YtidkbodmiegbkaaGreatDoorProg
import Derived.Below
import Derived.BigQuiet
import Derived.Deep.AppendLies
import Derived.Deep.Draws
import Derived.Deep.Fields
import Derived.Deep.QuietTactic
import Derived.Deep.RegionHeld3
import Derived.Deep.Slices
import Derived.Laws.BytesString
import Derived.Laws.Cover1
import Derived.Laws.IdiomStrings
import Derived.Lib.AppendStr
import Derived.Lib.Hide
import Derived.Lib.ItoaNum
import Derived.Lib.ParseIntB
import Derived.Lib.SliceRun
import Derived.Maps.AppendAt
import Derived.Orders
import Derived.Outline
import Derived.OwnWalk
import Derived.ProofKit
import Derived.WalkKit
import Derived.WalkMore
import Derived.WalkSpells
namespace Go.Proofs.YtidkbodmiegbkaaGreatDoor
set_option linter.unusedSimpArgs false
set_option linter.unusedVariables false
open Go.RowKit
section
variable {P : Program} {ops : Array Oper} {Q : Exit → Act → World → Prop} {md : Region.Mode}
/-- what an operation waits for -/
def afters (ops : Array Oper) (k : Nat) : List Nat := ((ops[k]?).map fun o => (o.after.toList.filter (Region.binds .any)).map (·.on)).getD []
def reach (ops : Array Oper) : Nat → Nat → List Nat
  | 0, _ => []
  | n + 1, k => afters ops k ++ (afters ops k).flatMap (reach ops n)
end
end Go.Proofs.YtidkbodmiegbkaaGreatDoor
