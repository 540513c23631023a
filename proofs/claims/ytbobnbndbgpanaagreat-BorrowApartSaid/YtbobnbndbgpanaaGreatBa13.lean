/- BorrowApart: runs. -/
import Derived.Test.YtbobnbndbgpanaaGreatBaBase
namespace Go.Proofs.YtbobnbndbgpanaaGreat.Sx
open Go
set_option linter.unusedVariables false
set_option linter.unusedSimpArgs false
set_option maxRecDepth 100000
theorem rBa_6_4_true : BaP 6 4 true := ⟨by decide +kernel⟩
theorem rBa_6_4_false : BaP 6 4 false := ⟨by decide +kernel⟩
theorem rBa_6_5_true : BaP 6 5 true := ⟨by decide +kernel⟩
theorem rBa_6_5_false : BaP 6 5 false := ⟨by decide +kernel⟩
theorem rBa_6_6_true : BaP 6 6 true := ⟨by decide +kernel⟩
theorem rBa_6_6_false : BaP 6 6 false := ⟨by decide +kernel⟩
theorem rBa_6_7_true : BaP 6 7 true := ⟨by decide +kernel⟩
theorem rBa_6_7_false : BaP 6 7 false := ⟨by decide +kernel⟩
end Go.Proofs.YtbobnbndbgpanaaGreat.Sx
