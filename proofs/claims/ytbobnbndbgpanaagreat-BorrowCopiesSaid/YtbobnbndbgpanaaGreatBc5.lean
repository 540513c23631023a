/- BorrowCopies: runs. -/
import Derived.Test.YtbobnbndbgpanaaGreatBcBase
namespace Go.Proofs.YtbobnbndbgpanaaGreat.Sx
open Go
set_option linter.unusedVariables false
set_option linter.unusedSimpArgs false
set_option maxRecDepth 100000
theorem rBc_2_3 : BcP 2 3 := ⟨by decide +kernel⟩
theorem rBc_2_2 : BcP 2 2 := ⟨by decide +kernel⟩
theorem rBc_2_1 : BcP 2 1 := ⟨by decide +kernel⟩
theorem rBc_2_0 : BcP 2 0 := ⟨by decide +kernel⟩
end Go.Proofs.YtbobnbndbgpanaaGreat.Sx
