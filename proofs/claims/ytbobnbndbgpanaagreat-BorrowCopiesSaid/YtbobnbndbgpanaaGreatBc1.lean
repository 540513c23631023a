/- BorrowCopies: runs. -/
import Derived.Test.YtbobnbndbgpanaaGreatBcBase
namespace Go.Proofs.YtbobnbndbgpanaaGreat.Sx
open Go
set_option linter.unusedVariables false
set_option linter.unusedSimpArgs false
set_option maxRecDepth 100000
theorem rBc_0_3 : BcP 0 3 := ⟨by decide +kernel⟩
theorem rBc_0_2 : BcP 0 2 := ⟨by decide +kernel⟩
theorem rBc_0_1 : BcP 0 1 := ⟨by decide +kernel⟩
theorem rBc_0_0 : BcP 0 0 := ⟨by decide +kernel⟩
end Go.Proofs.YtbobnbndbgpanaaGreat.Sx
