/- TypesRound: the runs for 7. -/
import Derived.Test.YtioediibbgklcaaTrBase
namespace Go.Proofs.Ytioediibbgklcaa.Sx
open Go
set_option linter.unusedVariables false
set_option linter.unusedSimpArgs false
set_option maxRecDepth 100000
theorem tr7t : isTrue (trT 7 true) = true := by decide +kernel
theorem tr7f : isTrue (trT 7 false) = true := by decide +kernel
end Go.Proofs.Ytioediibbgklcaa.Sx
