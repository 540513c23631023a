/- LowCounts: the runs for 7, 24, 8 and 23. -/
import Derived.Test.YtghiknpnhfiloaaLcBase
namespace Go.Proofs.Ytghiknpnhfiloaa.Sx
open Go
set_option linter.unusedVariables false
set_option linter.unusedSimpArgs false
set_option maxRecDepth 100000
theorem lc7 : lcB 7 = true := by decide +kernel
theorem lc24 : lcB 24 = true := by decide +kernel
theorem lc8 : lcB 8 = true := by decide +kernel
theorem lc23 : lcB 23 = true := by decide +kernel
end Go.Proofs.Ytghiknpnhfiloaa.Sx
