import Derived.Test.YtgdipflkmafpcaaC38
set_option linter.unusedSimpArgs false
set_option linter.unusedVariables false
namespace Go.Proofs.Rf
open Go.Vx
theorem awake : CallP Try.prog 14 [] (.d (.bool true)) := fnX_ok tab_ok noPre_ok 200 60 14 [] _ (by kernel_rfl)
end Go.Proofs.Rf
