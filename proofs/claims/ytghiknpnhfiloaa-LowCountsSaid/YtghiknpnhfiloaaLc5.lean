/- LowCounts: the runs for 5, 26, 10 and 21. -/
import Derived.Test.YtghiknpnhfiloaaLcBase
namespace Go.Proofs.Ytghiknpnhfiloaa.Sx
open Go
set_option linter.unusedVariables false
set_option linter.unusedSimpArgs false
set_option maxRecDepth 100000
theorem lc5 : lcB 5 = true := by decide +kernel
theorem lc26 : lcB 26 = true := by decide +kernel
theorem lc10 : lcB 10 = true := by decide +kernel
theorem lc21 : lcB 21 = true := by decide +kernel
end Go.Proofs.Ytghiknpnhfiloaa.Sx
