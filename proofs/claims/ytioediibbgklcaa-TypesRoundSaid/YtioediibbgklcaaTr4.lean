/- TypesRound: the runs for 4. -/
import Derived.Test.YtioediibbgklcaaTrBase
namespace Go.Proofs.Ytioediibbgklcaa.Sx
open Go
set_option linter.unusedVariables false
set_option linter.unusedSimpArgs false
set_option maxRecDepth 100000
theorem tr4t : isTrue (trT 4 true) = true := by decide +kernel
theorem tr4f : isTrue (trT 4 false) = true := by decide +kernel
end Go.Proofs.Ytioediibbgklcaa.Sx
