/- BorrowTwice: runs. -/
import Derived.Test.YtbobnbndbgpanaaGreatBtBase
namespace Go.Proofs.YtbobnbndbgpanaaGreat.Sx
open Go
set_option linter.unusedVariables false
set_option linter.unusedSimpArgs false
set_option maxRecDepth 100000
theorem rBt_0_0 : BtP 0 0 := ⟨by decide +kernel⟩
theorem rBt_0_1 : BtP 0 1 := ⟨by decide +kernel⟩
end Go.Proofs.YtbobnbndbgpanaaGreat.Sx
