/- BorrowCopies: runs. -/
import Derived.Test.YtbobnbndbgpanaaGreatBcBase
namespace Go.Proofs.YtbobnbndbgpanaaGreat.Sx
open Go
set_option linter.unusedVariables false
set_option linter.unusedSimpArgs false
set_option maxRecDepth 100000
theorem rBc_1_3 : BcP 1 3 := ⟨by decide +kernel⟩
theorem rBc_1_2 : BcP 1 2 := ⟨by decide +kernel⟩
theorem rBc_1_1 : BcP 1 1 := ⟨by decide +kernel⟩
theorem rBc_1_0 : BcP 1 0 := ⟨by decide +kernel⟩
end Go.Proofs.YtbobnbndbgpanaaGreat.Sx
