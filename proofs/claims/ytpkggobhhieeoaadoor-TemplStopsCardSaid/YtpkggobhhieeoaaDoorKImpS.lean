/- imports -/
import Derived.Test.YtpkggobhhieeoaaDoorKM1
import Derived.Test.YtpkggobhhieeoaaDoorShelf
set_option maxRecDepth 100000
set_option maxHeartbeats 32000000
set_option linter.unusedSimpArgs false
set_option linter.unusedVariables false
namespace Go.Proofs.YtpkggobhhieeoaaDoor
end Go.Proofs.YtpkggobhhieeoaaDoor
