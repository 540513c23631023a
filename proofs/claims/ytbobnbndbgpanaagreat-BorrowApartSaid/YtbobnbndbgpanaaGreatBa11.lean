/- BorrowApart: runs. -/
import Derived.Test.YtbobnbndbgpanaaGreatBaBase
namespace Go.Proofs.YtbobnbndbgpanaaGreat.Sx
open Go
set_option linter.unusedVariables false
set_option linter.unusedSimpArgs false
set_option maxRecDepth 100000
theorem rBa_5_4_true : BaP 5 4 true := ⟨by decide +kernel⟩
theorem rBa_5_4_false : BaP 5 4 false := ⟨by decide +kernel⟩
theorem rBa_5_5_true : BaP 5 5 true := ⟨by decide +kernel⟩
theorem rBa_5_5_false : BaP 5 5 false := ⟨by decide +kernel⟩
theorem rBa_5_6_true : BaP 5 6 true := ⟨by decide +kernel⟩
theorem rBa_5_6_false : BaP 5 6 false := ⟨by decide +kernel⟩
theorem rBa_5_7_true : BaP 5 7 true := ⟨by decide +kernel⟩
theorem rBa_5_7_false : BaP 5 7 false := ⟨by decide +kernel⟩
end Go.Proofs.YtbobnbndbgpanaaGreat.Sx
