/- LowCounts: the runs for 0, 31, 15 and 16. -/
import Derived.Test.YtghiknpnhfiloaaLcBase
namespace Go.Proofs.Ytghiknpnhfiloaa.Sx
open Go
set_option linter.unusedVariables false
set_option linter.unusedSimpArgs false
set_option maxRecDepth 100000
theorem lc0 : lcB 0 = true := by decide +kernel
theorem lc31 : lcB 31 = true := by decide +kernel
theorem lc15 : lcB 15 = true := by decide +kernel
theorem lc16 : lcB 16 = true := by decide +kernel
end Go.Proofs.Ytghiknpnhfiloaa.Sx
