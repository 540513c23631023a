/- AsmEdge: runs. -/
import Derived.Test.YthemmbebpkbmbaaAeBase
namespace Go.Proofs.Ythemmbebpkbmbaa.Sx
open Go
set_option linter.unusedVariables false
set_option linter.unusedSimpArgs false
set_option maxRecDepth 100000
theorem rAe_20_true : AeP 20 true := ⟨by decide +kernel⟩
theorem rAe_20_false : AeP 20 false := ⟨by decide +kernel⟩
theorem rAe_21_true : AeP 21 true := ⟨by decide +kernel⟩
theorem rAe_21_false : AeP 21 false := ⟨by decide +kernel⟩
theorem rAe_22_true : AeP 22 true := ⟨by decide +kernel⟩
theorem rAe_22_false : AeP 22 false := ⟨by decide +kernel⟩
theorem rAe_23_true : AeP 23 true := ⟨by decide +kernel⟩
theorem rAe_23_false : AeP 23 false := ⟨by decide +kernel⟩
end Go.Proofs.Ythemmbebpkbmbaa.Sx
