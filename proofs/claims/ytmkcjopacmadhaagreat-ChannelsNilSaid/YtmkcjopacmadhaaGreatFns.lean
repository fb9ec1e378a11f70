/- Printed by a program of this session: what the functions mean, and that the model means just that. Conditions: none. -/
import Derived.Test.YtmkcjopacmadhaaGreatFns1
import Derived.Test.YtmkcjopacmadhaaGreatFns2
set_option linter.unusedVariables false
set_option maxRecDepth 100000
namespace Go.Proofs.YtmkcjopacmadhaaGreat.Den
open Go

end Go.Proofs.YtmkcjopacmadhaaGreat.Den
