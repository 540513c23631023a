/- BorrowApart: runs. -/
import Derived.Test.YtbobnbndbgpanaaGreatBaBase
namespace Go.Proofs.YtbobnbndbgpanaaGreat.Sx
open Go
set_option linter.unusedVariables false
set_option linter.unusedSimpArgs false
set_option maxRecDepth 100000
theorem rBa_2_4_true : BaP 2 4 true := ⟨by decide +kernel⟩
theorem rBa_2_4_false : BaP 2 4 false := ⟨by decide +kernel⟩
theorem rBa_2_5_true : BaP 2 5 true := ⟨by decide +kernel⟩
theorem rBa_2_5_false : BaP 2 5 false := ⟨by decide +kernel⟩
theorem rBa_2_6_true : BaP 2 6 true := ⟨by decide +kernel⟩
theorem rBa_2_6_false : BaP 2 6 false := ⟨by decide +kernel⟩
theorem rBa_2_7_true : BaP 2 7 true := ⟨by decide +kernel⟩
theorem rBa_2_7_false : BaP 2 7 false := ⟨by decide +kernel⟩
end Go.Proofs.YtbobnbndbgpanaaGreat.Sx
