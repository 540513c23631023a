/- LowCounts: the runs for 1, 30, 14 and 17. -/
import Derived.Test.YtghiknpnhfiloaaLcBase
namespace Go.Proofs.Ytghiknpnhfiloaa.Sx
open Go
set_option linter.unusedVariables false
set_option linter.unusedSimpArgs false
set_option maxRecDepth 100000
theorem lc1 : lcB 1 = true := by decide +kernel
theorem lc30 : lcB 30 = true := by decide +kernel
theorem lc14 : lcB 14 = true := by decide +kernel
theorem lc17 : lcB 17 = true := by decide +kernel
end Go.Proofs.Ytghiknpnhfiloaa.Sx
