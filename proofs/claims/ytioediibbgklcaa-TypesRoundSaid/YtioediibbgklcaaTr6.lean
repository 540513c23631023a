/- TypesRound: the runs for 6. -/
import Derived.Test.YtioediibbgklcaaTrBase
namespace Go.Proofs.Ytioediibbgklcaa.Sx
open Go
set_option linter.unusedVariables false
set_option linter.unusedSimpArgs false
set_option maxRecDepth 100000
theorem tr6t : isTrue (trT 6 true) = true := by decide +kernel
theorem tr6f : isTrue (trT 6 false) = true := by decide +kernel
end Go.Proofs.Ytioediibbgklcaa.Sx
