/- LowCounts: the runs for 3, 28, 12 and 19. -/
import Derived.Test.YtghiknpnhfiloaaLcBase
namespace Go.Proofs.Ytghiknpnhfiloaa.Sx
open Go
set_option linter.unusedVariables false
set_option linter.unusedSimpArgs false
set_option maxRecDepth 100000
theorem lc3 : lcB 3 = true := by decide +kernel
theorem lc28 : lcB 28 = true := by decide +kernel
theorem lc12 : lcB 12 = true := by decide +kernel
theorem lc19 : lcB 19 = true := by decide +kernel
end Go.Proofs.Ytghiknpnhfiloaa.Sx
