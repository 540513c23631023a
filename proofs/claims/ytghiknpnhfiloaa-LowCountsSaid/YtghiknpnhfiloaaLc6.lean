/- LowCounts: the runs for 6, 25, 9 and 22. -/
import Derived.Test.YtghiknpnhfiloaaLcBase
namespace Go.Proofs.Ytghiknpnhfiloaa.Sx
open Go
set_option linter.unusedVariables false
set_option linter.unusedSimpArgs false
set_option maxRecDepth 100000
theorem lc6 : lcB 6 = true := by decide +kernel
theorem lc25 : lcB 25 = true := by decide +kernel
theorem lc9 : lcB 9 = true := by decide +kernel
theorem lc22 : lcB 22 = true := by decide +kernel
end Go.Proofs.Ytghiknpnhfiloaa.Sx
