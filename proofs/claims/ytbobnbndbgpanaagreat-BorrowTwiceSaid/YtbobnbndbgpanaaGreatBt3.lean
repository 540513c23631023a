/- BorrowTwice: runs. -/
import Derived.Test.YtbobnbndbgpanaaGreatBtBase
namespace Go.Proofs.YtbobnbndbgpanaaGreat.Sx
open Go
set_option linter.unusedVariables false
set_option linter.unusedSimpArgs false
set_option maxRecDepth 100000
theorem rBt_1_2 : BtP 1 2 := ⟨by decide +kernel⟩
theorem rBt_1_3 : BtP 1 3 := ⟨by decide +kernel⟩
end Go.Proofs.YtbobnbndbgpanaaGreat.Sx
