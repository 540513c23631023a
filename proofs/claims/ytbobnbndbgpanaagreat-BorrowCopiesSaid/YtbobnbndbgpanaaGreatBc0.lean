/- BorrowCopies: runs. -/
import Derived.Test.YtbobnbndbgpanaaGreatBcBase
namespace Go.Proofs.YtbobnbndbgpanaaGreat.Sx
open Go
set_option linter.unusedVariables false
set_option linter.unusedSimpArgs false
set_option maxRecDepth 100000
theorem rBc_0_7 : BcP 0 7 := ⟨by decide +kernel⟩
theorem rBc_0_6 : BcP 0 6 := ⟨by decide +kernel⟩
theorem rBc_0_5 : BcP 0 5 := ⟨by decide +kernel⟩
theorem rBc_0_4 : BcP 0 4 := ⟨by decide +kernel⟩
end Go.Proofs.YtbobnbndbgpanaaGreat.Sx
