/- BorrowCopies: runs. -/
import Derived.Test.YtbobnbndbgpanaaGreatBcBase
namespace Go.Proofs.YtbobnbndbgpanaaGreat.Sx
open Go
set_option linter.unusedVariables false
set_option linter.unusedSimpArgs false
set_option maxRecDepth 100000
theorem rBc_3_3 : BcP 3 3 := ⟨by decide +kernel⟩
theorem rBc_3_2 : BcP 3 2 := ⟨by decide +kernel⟩
theorem rBc_3_1 : BcP 3 1 := ⟨by decide +kernel⟩
theorem rBc_3_0 : BcP 3 0 := ⟨by decide +kernel⟩
end Go.Proofs.YtbobnbndbgpanaaGreat.Sx
