/- Printed by a program of this session: what the functions mean, and that the model means just that. Conditions: none. -/
import Derived.Test.YthcekppbbanfeaaGreatFns1
import Derived.Test.YthcekppbbanfeaaGreatFns2
set_option linter.unusedVariables false
set_option maxRecDepth 100000
namespace Go.Proofs.YthcekppbbanfeaaGreat.Den
open Go

end Go.Proofs.YthcekppbbanfeaaGreat.Den
