import Derived.Test.YtapgahonfifgnaaDoorE1
import Derived.Test.YtapgahonfifgnaaDoorL3
set_option linter.unusedSimpArgs false
set_option linter.unusedVariables false
namespace Go.Proofs.Sg
open Go.Vx
end Go.Proofs.Sg
