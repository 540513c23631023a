/- BorrowApart: runs. -/
import Derived.Test.YtbobnbndbgpanaaGreatBaBase
namespace Go.Proofs.YtbobnbndbgpanaaGreat.Sx
open Go
set_option linter.unusedVariables false
set_option linter.unusedSimpArgs false
set_option maxRecDepth 100000
theorem rBa_4_0_true : BaP 4 0 true := ⟨by decide +kernel⟩
theorem rBa_4_0_false : BaP 4 0 false := ⟨by decide +kernel⟩
theorem rBa_4_1_true : BaP 4 1 true := ⟨by decide +kernel⟩
theorem rBa_4_1_false : BaP 4 1 false := ⟨by decide +kernel⟩
theorem rBa_4_2_true : BaP 4 2 true := ⟨by decide +kernel⟩
theorem rBa_4_2_false : BaP 4 2 false := ⟨by decide +kernel⟩
theorem rBa_4_3_true : BaP 4 3 true := ⟨by decide +kernel⟩
theorem rBa_4_3_false : BaP 4 3 false := ⟨by decide +kernel⟩
end Go.Proofs.YtbobnbndbgpanaaGreat.Sx
