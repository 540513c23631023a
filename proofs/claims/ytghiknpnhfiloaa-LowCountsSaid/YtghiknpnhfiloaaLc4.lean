/- LowCounts: the runs for 4, 27, 11 and 20. -/
import Derived.Test.YtghiknpnhfiloaaLcBase
namespace Go.Proofs.Ytghiknpnhfiloaa.Sx
open Go
set_option linter.unusedVariables false
set_option linter.unusedSimpArgs false
set_option maxRecDepth 100000
theorem lc4 : lcB 4 = true := by decide +kernel
theorem lc27 : lcB 27 = true := by decide +kernel
theorem lc11 : lcB 11 = true := by decide +kernel
theorem lc20 : lcB 20 = true := by decide +kernel
end Go.Proofs.Ytghiknpnhfiloaa.Sx
