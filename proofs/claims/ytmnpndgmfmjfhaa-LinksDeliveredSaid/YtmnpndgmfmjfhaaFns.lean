/- Printed by a program of this session: what the functions mean, and that the model means just that. Conditions: none. -/
import Derived.Test.YtmnpndgmfmjfhaaFns1
import Derived.Test.YtmnpndgmfmjfhaaFns2
import Derived.Test.YtmnpndgmfmjfhaaFns3
set_option linter.unusedVariables false
set_option maxRecDepth 100000
namespace Go.Proofs.Ytmnpndgmfmjfhaa.Den
open Go

end Go.Proofs.Ytmnpndgmfmjfhaa.Den
