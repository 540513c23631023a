/- BorrowApart: runs. -/
import Derived.Test.YtbobnbndbgpanaaGreatBaBase
namespace Go.Proofs.YtbobnbndbgpanaaGreat.Sx
open Go
set_option linter.unusedVariables false
set_option linter.unusedSimpArgs false
set_option maxRecDepth 100000
theorem rBa_6_0_true : BaP 6 0 true := ⟨by decide +kernel⟩
theorem rBa_6_0_false : BaP 6 0 false := ⟨by decide +kernel⟩
theorem rBa_6_1_true : BaP 6 1 true := ⟨by decide +kernel⟩
theorem rBa_6_1_false : BaP 6 1 false := ⟨by decide +kernel⟩
theorem rBa_6_2_true : BaP 6 2 true := ⟨by decide +kernel⟩
theorem rBa_6_2_false : BaP 6 2 false := ⟨by decide +kernel⟩
theorem rBa_6_3_true : BaP 6 3 true := ⟨by decide +kernel⟩
theorem rBa_6_3_false : BaP 6 3 false := ⟨by decide +kernel⟩
end Go.Proofs.YtbobnbndbgpanaaGreat.Sx
