/- BorrowCopies: runs. -/
import Derived.Test.YtbobnbndbgpanaaGreatBcBase
namespace Go.Proofs.YtbobnbndbgpanaaGreat.Sx
open Go
set_option linter.unusedVariables false
set_option linter.unusedSimpArgs false
set_option maxRecDepth 100000
theorem rBc_3_7 : BcP 3 7 := ⟨by decide +kernel⟩
theorem rBc_3_6 : BcP 3 6 := ⟨by decide +kernel⟩
theorem rBc_3_5 : BcP 3 5 := ⟨by decide +kernel⟩
theorem rBc_3_4 : BcP 3 4 := ⟨by decide +kernel⟩
end Go.Proofs.YtbobnbndbgpanaaGreat.Sx
