/- AsmEdge: runs. -/
import Derived.Test.YthemmbebpkbmbaaAeBase
namespace Go.Proofs.Ythemmbebpkbmbaa.Sx
open Go
set_option linter.unusedVariables false
set_option linter.unusedSimpArgs false
set_option maxRecDepth 100000
theorem rAe_4_true : AeP 4 true := ⟨by decide +kernel⟩
theorem rAe_4_false : AeP 4 false := ⟨by decide +kernel⟩
theorem rAe_5_true : AeP 5 true := ⟨by decide +kernel⟩
theorem rAe_5_false : AeP 5 false := ⟨by decide +kernel⟩
theorem rAe_6_true : AeP 6 true := ⟨by decide +kernel⟩
theorem rAe_6_false : AeP 6 false := ⟨by decide +kernel⟩
theorem rAe_7_true : AeP 7 true := ⟨by decide +kernel⟩
theorem rAe_7_false : AeP 7 false := ⟨by decide +kernel⟩
end Go.Proofs.Ythemmbebpkbmbaa.Sx
