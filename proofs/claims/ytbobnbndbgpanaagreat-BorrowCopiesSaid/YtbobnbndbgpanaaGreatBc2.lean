/- BorrowCopies: runs. -/
import Derived.Test.YtbobnbndbgpanaaGreatBcBase
namespace Go.Proofs.YtbobnbndbgpanaaGreat.Sx
open Go
set_option linter.unusedVariables false
set_option linter.unusedSimpArgs false
set_option maxRecDepth 100000
theorem rBc_1_7 : BcP 1 7 := ⟨by decide +kernel⟩
theorem rBc_1_6 : BcP 1 6 := ⟨by decide +kernel⟩
theorem rBc_1_5 : BcP 1 5 := ⟨by decide +kernel⟩
theorem rBc_1_4 : BcP 1 4 := ⟨by decide +kernel⟩
end Go.Proofs.YtbobnbndbgpanaaGreat.Sx
