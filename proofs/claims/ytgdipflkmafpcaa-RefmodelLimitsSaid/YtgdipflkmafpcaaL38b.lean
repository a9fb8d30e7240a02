import Derived.Test.YtgdipflkmafpcaaR10
import Derived.Test.YtgdipflkmafpcaaL38
set_option linter.unusedSimpArgs false
set_option linter.unusedVariables false
namespace Go.Proofs.Rf
end Go.Proofs.Rf
