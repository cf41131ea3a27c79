/- What is needed of other chapters. -/
import Derived.Test.YtidkbodmiegbkaaDoorLM1
import Derived.Test.YtidkbodmiegbkaaDoorLM2
import Derived.Test.YtidkbodmiegbkaaDoorLM3
namespace Go.Proofs.YtidkbodmiegbkaaDoor
set_option linter.unusedSimpArgs false
set_option linter.unusedVariables false
end Go.Proofs.YtidkbodmiegbkaaDoor
