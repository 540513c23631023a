/- BorrowApart: runs. -/
import Derived.Test.YtbobnbndbgpanaaGreatBaBase
namespace Go.Proofs.YtbobnbndbgpanaaGreat.Sx
open Go
set_option linter.unusedVariables false
set_option linter.unusedSimpArgs false
set_option maxRecDepth 100000
theorem rBa_5_0_true : BaP 5 0 true := ⟨by decide +kernel⟩
theorem rBa_5_0_false : BaP 5 0 false := ⟨by decide +kernel⟩
theorem rBa_5_1_true : BaP 5 1 true := ⟨by decide +kernel⟩
theorem rBa_5_1_false : BaP 5 1 false := ⟨by decide +kernel⟩
theorem rBa_5_2_true : BaP 5 2 true := ⟨by decide +kernel⟩
theorem rBa_5_2_false : BaP 5 2 false := ⟨by decide +kernel⟩
theorem rBa_5_3_true : BaP 5 3 true := ⟨by decide +kernel⟩
theorem rBa_5_3_false : BaP 5 3 false := ⟨by decide +kernel⟩
end Go.Proofs.YtbobnbndbgpanaaGreat.Sx
