/- BorrowTwice: runs. -/
import Derived.Test.YtbobnbndbgpanaaGreatBtBase
namespace Go.Proofs.YtbobnbndbgpanaaGreat.Sx
open Go
set_option linter.unusedVariables false
set_option linter.unusedSimpArgs false
set_option maxRecDepth 100000
theorem rBt_2_0 : BtP 2 0 := ⟨by decide +kernel⟩
theorem rBt_2_1 : BtP 2 1 := ⟨by decide +kernel⟩
end Go.Proofs.YtbobnbndbgpanaaGreat.Sx
