/- BorrowApart: runs. -/
import Derived.Test.YtbobnbndbgpanaaGreatBaBase
namespace Go.Proofs.YtbobnbndbgpanaaGreat.Sx
open Go
set_option linter.unusedVariables false
set_option linter.unusedSimpArgs false
set_option maxRecDepth 100000
theorem rBa_0_4_true : BaP 0 4 true := ⟨by decide +kernel⟩
theorem rBa_0_4_false : BaP 0 4 false := ⟨by decide +kernel⟩
theorem rBa_0_5_true : BaP 0 5 true := ⟨by decide +kernel⟩
theorem rBa_0_5_false : BaP 0 5 false := ⟨by decide +kernel⟩
theorem rBa_0_6_true : BaP 0 6 true := ⟨by decide +kernel⟩
theorem rBa_0_6_false : BaP 0 6 false := ⟨by decide +kernel⟩
theorem rBa_0_7_true : BaP 0 7 true := ⟨by decide +kernel⟩
theorem rBa_0_7_false : BaP 0 7 false := ⟨by decide +kernel⟩
end Go.Proofs.YtbobnbndbgpanaaGreat.Sx
