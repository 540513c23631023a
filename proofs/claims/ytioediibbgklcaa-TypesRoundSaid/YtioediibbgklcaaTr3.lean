/- TypesRound: the runs for 3. -/
import Derived.Test.YtioediibbgklcaaTrBase
namespace Go.Proofs.Ytioediibbgklcaa.Sx
open Go
set_option linter.unusedVariables false
set_option linter.unusedSimpArgs false
set_option maxRecDepth 100000
theorem tr3t : isTrue (trT 3 true) = true := by decide +kernel
theorem tr3f : isTrue (trT 3 false) = true := by decide +kernel
end Go.Proofs.Ytioediibbgklcaa.Sx
