/- TypesRound: the runs for 2. -/
import Derived.Test.YtioediibbgklcaaTrBase
namespace Go.Proofs.Ytioediibbgklcaa.Sx
open Go
set_option linter.unusedVariables false
set_option linter.unusedSimpArgs false
set_option maxRecDepth 100000
theorem tr2t : isTrue (trT 2 true) = true := by decide +kernel
theorem tr2f : isTrue (trT 2 false) = true := by decide +kernel
end Go.Proofs.Ytioediibbgklcaa.Sx
