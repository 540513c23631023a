/- TypesRound: the runs for 1. -/
import Derived.Test.YtioediibbgklcaaTrBase
namespace Go.Proofs.Ytioediibbgklcaa.Sx
open Go
set_option linter.unusedVariables false
set_option linter.unusedSimpArgs false
set_option maxRecDepth 100000
theorem tr1t : isTrue (trT 1 true) = true := by decide +kernel
theorem tr1f : isTrue (trT 1 false) = true := by decide +kernel
end Go.Proofs.Ytioediibbgklcaa.Sx
