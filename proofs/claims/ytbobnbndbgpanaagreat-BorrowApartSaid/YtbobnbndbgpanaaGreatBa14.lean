/- BorrowApart: runs. -/
import Derived.Test.YtbobnbndbgpanaaGreatBaBase
namespace Go.Proofs.YtbobnbndbgpanaaGreat.Sx
open Go
set_option linter.unusedVariables false
set_option linter.unusedSimpArgs false
set_option maxRecDepth 100000
theorem rBa_7_0_true : BaP 7 0 true := ⟨by decide +kernel⟩
theorem rBa_7_0_false : BaP 7 0 false := ⟨by decide +kernel⟩
theorem rBa_7_1_true : BaP 7 1 true := ⟨by decide +kernel⟩
theorem rBa_7_1_false : BaP 7 1 false := ⟨by decide +kernel⟩
theorem rBa_7_2_true : BaP 7 2 true := ⟨by decide +kernel⟩
theorem rBa_7_2_false : BaP 7 2 false := ⟨by decide +kernel⟩
theorem rBa_7_3_true : BaP 7 3 true := ⟨by decide +kernel⟩
theorem rBa_7_3_false : BaP 7 3 false := ⟨by decide +kernel⟩
end Go.Proofs.YtbobnbndbgpanaaGreat.Sx
