/- Taken over out of another chapter (its text Api): what is needed here. -/
import Derived.Test.YtidkbodmiegbkaaGreatDoorLK
import Derived.Test.YtidkbodmiegbkaaGreatDoorCards
import Derived.Test.YtidkbodmiegbkaaGreatDoorTie
import Derived.Test.YtidkbodmiegbkaaGreatDoorProg
import Derived.Below
import Derived.Deep.Draws
import Derived.Deep.Fields
import Derived.Deep.Slices
import Derived.Lib.Hide
import Derived.ProofKit
import Derived.WalkKit
namespace Go.Proofs.YtidkbodmiegbkaaGreatDoor
set_option linter.unusedSimpArgs false
set_option linter.unusedVariables false
open Go.RowKit Go.ChangeShapes Go.WideShapes Go.Deep
/-- the most elements that a list that came in can have, of so many bytes each (the reach) -/
def Fit (n bytes : Nat) : Prop := n * bytes ≤ 140737488355328
end Go.Proofs.YtidkbodmiegbkaaGreatDoor
