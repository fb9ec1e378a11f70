/- Printed by a program of this session: what the functions mean, and that the model means just that. Conditions: none. -/
import Derived.Test.YthcekppbbanfeaaFns1
import Derived.Test.YthcekppbbanfeaaFns2
set_option linter.unusedVariables false
set_option maxRecDepth 100000
namespace Go.Proofs.Ythcekppbbanfeaa.Den
open Go

end Go.Proofs.Ythcekppbbanfeaa.Den
