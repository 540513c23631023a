/- BorrowApart: runs. -/
import Derived.Test.YtbobnbndbgpanaaGreatBaBase
namespace Go.Proofs.YtbobnbndbgpanaaGreat.Sx
open Go
set_option linter.unusedVariables false
set_option linter.unusedSimpArgs false
set_option maxRecDepth 100000
theorem rBa_3_0_true : BaP 3 0 true := ⟨by decide +kernel⟩
theorem rBa_3_0_false : BaP 3 0 false := ⟨by decide +kernel⟩
theorem rBa_3_1_true : BaP 3 1 true := ⟨by decide +kernel⟩
theorem rBa_3_1_false : BaP 3 1 false := ⟨by decide +kernel⟩
theorem rBa_3_2_true : BaP 3 2 true := ⟨by decide +kernel⟩
theorem rBa_3_2_false : BaP 3 2 false := ⟨by decide +kernel⟩
theorem rBa_3_3_true : BaP 3 3 true := ⟨by decide +kernel⟩
theorem rBa_3_3_false : BaP 3 3 false := ⟨by decide +kernel⟩
end Go.Proofs.YtbobnbndbgpanaaGreat.Sx
