/- BorrowApart: runs. -/
import Derived.Test.YtbobnbndbgpanaaGreatBaBase
namespace Go.Proofs.YtbobnbndbgpanaaGreat.Sx
open Go
set_option linter.unusedVariables false
set_option linter.unusedSimpArgs false
set_option maxRecDepth 100000
theorem rBa_1_0_true : BaP 1 0 true := ⟨by decide +kernel⟩
theorem rBa_1_0_false : BaP 1 0 false := ⟨by decide +kernel⟩
theorem rBa_1_1_true : BaP 1 1 true := ⟨by decide +kernel⟩
theorem rBa_1_1_false : BaP 1 1 false := ⟨by decide +kernel⟩
theorem rBa_1_2_true : BaP 1 2 true := ⟨by decide +kernel⟩
theorem rBa_1_2_false : BaP 1 2 false := ⟨by decide +kernel⟩
theorem rBa_1_3_true : BaP 1 3 true := ⟨by decide +kernel⟩
theorem rBa_1_3_false : BaP 1 3 false := ⟨by decide +kernel⟩
end Go.Proofs.YtbobnbndbgpanaaGreat.Sx
