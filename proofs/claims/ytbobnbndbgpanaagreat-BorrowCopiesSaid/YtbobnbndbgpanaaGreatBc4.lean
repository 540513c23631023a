/- BorrowCopies: runs. -/
import Derived.Test.YtbobnbndbgpanaaGreatBcBase
namespace Go.Proofs.YtbobnbndbgpanaaGreat.Sx
open Go
set_option linter.unusedVariables false
set_option linter.unusedSimpArgs false
set_option maxRecDepth 100000
theorem rBc_2_7 : BcP 2 7 := ⟨by decide +kernel⟩
theorem rBc_2_6 : BcP 2 6 := ⟨by decide +kernel⟩
theorem rBc_2_5 : BcP 2 5 := ⟨by decide +kernel⟩
theorem rBc_2_4 : BcP 2 4 := ⟨by decide +kernel⟩
end Go.Proofs.YtbobnbndbgpanaaGreat.Sx
