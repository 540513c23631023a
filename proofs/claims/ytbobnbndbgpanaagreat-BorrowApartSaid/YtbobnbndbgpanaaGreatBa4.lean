/- BorrowApart: runs. -/
import Derived.Test.YtbobnbndbgpanaaGreatBaBase
namespace Go.Proofs.YtbobnbndbgpanaaGreat.Sx
open Go
set_option linter.unusedVariables false
set_option linter.unusedSimpArgs false
set_option maxRecDepth 100000
theorem rBa_2_0_true : BaP 2 0 true := ⟨by decide +kernel⟩
theorem rBa_2_0_false : BaP 2 0 false := ⟨by decide +kernel⟩
theorem rBa_2_1_true : BaP 2 1 true := ⟨by decide +kernel⟩
theorem rBa_2_1_false : BaP 2 1 false := ⟨by decide +kernel⟩
theorem rBa_2_2_true : BaP 2 2 true := ⟨by decide +kernel⟩
theorem rBa_2_2_false : BaP 2 2 false := ⟨by decide +kernel⟩
theorem rBa_2_3_true : BaP 2 3 true := ⟨by decide +kernel⟩
theorem rBa_2_3_false : BaP 2 3 false := ⟨by decide +kernel⟩
end Go.Proofs.YtbobnbndbgpanaaGreat.Sx
