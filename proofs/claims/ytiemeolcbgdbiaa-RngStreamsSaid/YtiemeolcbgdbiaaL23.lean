import Derived.Test.YtiemeolcbgdbiaaL2
import Derived.Test.YtiemeolcbgdbiaaL3
set_option linter.unusedSimpArgs false
set_option linter.unusedVariables false
