/- TypesRound: the runs for 5. -/
import Derived.Test.YtioediibbgklcaaTrBase
namespace Go.Proofs.Ytioediibbgklcaa.Sx
open Go
set_option linter.unusedVariables false
set_option linter.unusedSimpArgs false
set_option maxRecDepth 100000
theorem tr5t : isTrue (trT 5 true) = true := by decide +kernel
theorem tr5f : isTrue (trT 5 false) = true := by decide +kernel
end Go.Proofs.Ytioediibbgklcaa.Sx
