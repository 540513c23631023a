/- BorrowTwice: runs. -/
import Derived.Test.YtbobnbndbgpanaaGreatBtBase
namespace Go.Proofs.YtbobnbndbgpanaaGreat.Sx
open Go
set_option linter.unusedVariables false
set_option linter.unusedSimpArgs false
set_option maxRecDepth 100000
theorem rBt_3_2 : BtP 3 2 := ⟨by decide +kernel⟩
theorem rBt_3_3 : BtP 3 3 := ⟨by decide +kernel⟩
end Go.Proofs.YtbobnbndbgpanaaGreat.Sx
