/- Printed by a program of this session: what the functions mean, and that the model means just that. Conditions: none. -/
import Derived.Test.YtmmbepdghpjgeaaFns1
import Derived.Test.YtmmbepdghpjgeaaFns2
set_option linter.unusedVariables false
set_option maxRecDepth 100000
namespace Go.Proofs.Ytmmbepdghpjgeaa.Den
open Go

end Go.Proofs.Ytmmbepdghpjgeaa.Den
