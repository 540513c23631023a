/- BorrowApart: runs. -/
import Derived.Test.YtbobnbndbgpanaaGreatBaBase
namespace Go.Proofs.YtbobnbndbgpanaaGreat.Sx
open Go
set_option linter.unusedVariables false
set_option linter.unusedSimpArgs false
set_option maxRecDepth 100000
theorem rBa_7_4_true : BaP 7 4 true := ⟨by decide +kernel⟩
theorem rBa_7_4_false : BaP 7 4 false := ⟨by decide +kernel⟩
theorem rBa_7_5_true : BaP 7 5 true := ⟨by decide +kernel⟩
theorem rBa_7_5_false : BaP 7 5 false := ⟨by decide +kernel⟩
theorem rBa_7_6_true : BaP 7 6 true := ⟨by decide +kernel⟩
theorem rBa_7_6_false : BaP 7 6 false := ⟨by decide +kernel⟩
theorem rBa_7_7_true : BaP 7 7 true := ⟨by decide +kernel⟩
theorem rBa_7_7_false : BaP 7 7 false := ⟨by decide +kernel⟩
end Go.Proofs.YtbobnbndbgpanaaGreat.Sx
