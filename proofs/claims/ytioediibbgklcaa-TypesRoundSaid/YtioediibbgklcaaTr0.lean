/- TypesRound: the runs for 0. -/
import Derived.Test.YtioediibbgklcaaTrBase
namespace Go.Proofs.Ytioediibbgklcaa.Sx
open Go
set_option linter.unusedVariables false
set_option linter.unusedSimpArgs false
set_option maxRecDepth 100000
theorem tr0t : isTrue (trT 0 true) = true := by decide +kernel
theorem tr0f : isTrue (trT 0 false) = true := by decide +kernel
end Go.Proofs.Ytioediibbgklcaa.Sx
