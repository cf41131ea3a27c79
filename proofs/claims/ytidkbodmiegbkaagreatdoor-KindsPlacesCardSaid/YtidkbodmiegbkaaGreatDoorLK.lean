/- What is needed of other chapters. -/
import Derived.Test.YtidkbodmiegbkaaGreatDoorLM1
import Derived.Test.YtidkbodmiegbkaaGreatDoorLM2
import Derived.Test.YtidkbodmiegbkaaGreatDoorLM4
import Derived.Test.YtidkbodmiegbkaaGreatDoorLM5
import Derived.Test.YtidkbodmiegbkaaGreatDoorLM3
namespace Go.Proofs.YtidkbodmiegbkaaGreatDoor
set_option linter.unusedSimpArgs false
set_option linter.unusedVariables false
end Go.Proofs.YtidkbodmiegbkaaGreatDoor
