/- LowCounts: the runs for 2, 29, 13 and 18. -/
import Derived.Test.YtghiknpnhfiloaaLcBase
namespace Go.Proofs.Ytghiknpnhfiloaa.Sx
open Go
set_option linter.unusedVariables false
set_option linter.unusedSimpArgs false
set_option maxRecDepth 100000
theorem lc2 : lcB 2 = true := by decide +kernel
theorem lc29 : lcB 29 = true := by decide +kernel
theorem lc13 : lcB 13 = true := by decide +kernel
theorem lc18 : lcB 18 = true := by decide +kernel
end Go.Proofs.Ytghiknpnhfiloaa.Sx
