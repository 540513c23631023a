/- AsmEdge: runs. -/
import Derived.Test.YthemmbebpkbmbaaAeBase
namespace Go.Proofs.Ythemmbebpkbmbaa.Sx
open Go
set_option linter.unusedVariables false
set_option linter.unusedSimpArgs false
set_option maxRecDepth 100000
theorem rAe_0_true : AeP 0 true := ⟨by decide +kernel⟩
theorem rAe_0_false : AeP 0 false := ⟨by decide +kernel⟩
theorem rAe_1_true : AeP 1 true := ⟨by decide +kernel⟩
theorem rAe_1_false : AeP 1 false := ⟨by decide +kernel⟩
theorem rAe_2_true : AeP 2 true := ⟨by decide +kernel⟩
theorem rAe_2_false : AeP 2 false := ⟨by decide +kernel⟩
theorem rAe_3_true : AeP 3 true := ⟨by decide +kernel⟩
theorem rAe_3_false : AeP 3 false := ⟨by decide +kernel⟩
end Go.Proofs.Ythemmbebpkbmbaa.Sx
