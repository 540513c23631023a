/- BorrowApart: runs. -/
import Derived.Test.YtbobnbndbgpanaaGreatBaBase
namespace Go.Proofs.YtbobnbndbgpanaaGreat.Sx
open Go
set_option linter.unusedVariables false
set_option linter.unusedSimpArgs false
set_option maxRecDepth 100000
theorem rBa_3_4_true : BaP 3 4 true := ⟨by decide +kernel⟩
theorem rBa_3_4_false : BaP 3 4 false := ⟨by decide +kernel⟩
theorem rBa_3_5_true : BaP 3 5 true := ⟨by decide +kernel⟩
theorem rBa_3_5_false : BaP 3 5 false := ⟨by decide +kernel⟩
theorem rBa_3_6_true : BaP 3 6 true := ⟨by decide +kernel⟩
theorem rBa_3_6_false : BaP 3 6 false := ⟨by decide +kernel⟩
theorem rBa_3_7_true : BaP 3 7 true := ⟨by decide +kernel⟩
theorem rBa_3_7_false : BaP 3 7 false := ⟨by decide +kernel⟩
end Go.Proofs.YtbobnbndbgpanaaGreat.Sx
