/- BorrowApart: runs. -/
import Derived.Test.YtbobnbndbgpanaaGreatBaBase
namespace Go.Proofs.YtbobnbndbgpanaaGreat.Sx
open Go
set_option linter.unusedVariables false
set_option linter.unusedSimpArgs false
set_option maxRecDepth 100000
theorem rBa_0_0_true : BaP 0 0 true := ⟨by decide +kernel⟩
theorem rBa_0_0_false : BaP 0 0 false := ⟨by decide +kernel⟩
theorem rBa_0_1_true : BaP 0 1 true := ⟨by decide +kernel⟩
theorem rBa_0_1_false : BaP 0 1 false := ⟨by decide +kernel⟩
theorem rBa_0_2_true : BaP 0 2 true := ⟨by decide +kernel⟩
theorem rBa_0_2_false : BaP 0 2 false := ⟨by decide +kernel⟩
theorem rBa_0_3_true : BaP 0 3 true := ⟨by decide +kernel⟩
theorem rBa_0_3_false : BaP 0 3 false := ⟨by decide +kernel⟩
end Go.Proofs.YtbobnbndbgpanaaGreat.Sx
