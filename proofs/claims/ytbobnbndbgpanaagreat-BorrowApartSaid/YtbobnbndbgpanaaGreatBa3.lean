/- BorrowApart: runs. -/
import Derived.Test.YtbobnbndbgpanaaGreatBaBase
namespace Go.Proofs.YtbobnbndbgpanaaGreat.Sx
open Go
set_option linter.unusedVariables false
set_option linter.unusedSimpArgs false
set_option maxRecDepth 100000
theorem rBa_1_4_true : BaP 1 4 true := ⟨by decide +kernel⟩
theorem rBa_1_4_false : BaP 1 4 false := ⟨by decide +kernel⟩
theorem rBa_1_5_true : BaP 1 5 true := ⟨by decide +kernel⟩
theorem rBa_1_5_false : BaP 1 5 false := ⟨by decide +kernel⟩
theorem rBa_1_6_true : BaP 1 6 true := ⟨by decide +kernel⟩
theorem rBa_1_6_false : BaP 1 6 false := ⟨by decide +kernel⟩
theorem rBa_1_7_true : BaP 1 7 true := ⟨by decide +kernel⟩
theorem rBa_1_7_false : BaP 1 7 false := ⟨by decide +kernel⟩
end Go.Proofs.YtbobnbndbgpanaaGreat.Sx
