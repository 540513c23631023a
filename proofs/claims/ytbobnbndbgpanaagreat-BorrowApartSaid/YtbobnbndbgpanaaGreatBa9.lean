/- BorrowApart: runs. -/
import Derived.Test.YtbobnbndbgpanaaGreatBaBase
namespace Go.Proofs.YtbobnbndbgpanaaGreat.Sx
open Go
set_option linter.unusedVariables false
set_option linter.unusedSimpArgs false
set_option maxRecDepth 100000
theorem rBa_4_4_true : BaP 4 4 true := ⟨by decide +kernel⟩
theorem rBa_4_4_false : BaP 4 4 false := ⟨by decide +kernel⟩
theorem rBa_4_5_true : BaP 4 5 true := ⟨by decide +kernel⟩
theorem rBa_4_5_false : BaP 4 5 false := ⟨by decide +kernel⟩
theorem rBa_4_6_true : BaP 4 6 true := ⟨by decide +kernel⟩
theorem rBa_4_6_false : BaP 4 6 false := ⟨by decide +kernel⟩
theorem rBa_4_7_true : BaP 4 7 true := ⟨by decide +kernel⟩
theorem rBa_4_7_false : BaP 4 7 false := ⟨by decide +kernel⟩
end Go.Proofs.YtbobnbndbgpanaaGreat.Sx
