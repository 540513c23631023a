/- AsmEdge: runs. -/
import Derived.Test.YthemmbebpkbmbaaAeBase
namespace Go.Proofs.Ythemmbebpkbmbaa.Sx
open Go
set_option linter.unusedVariables false
set_option linter.unusedSimpArgs false
set_option maxRecDepth 100000
theorem rAe_32_true : AeP 32 true := ⟨by decide +kernel⟩
theorem rAe_32_false : AeP 32 false := ⟨by decide +kernel⟩
theorem rAe_33_true : AeP 33 true := ⟨by decide +kernel⟩
theorem rAe_33_false : AeP 33 false := ⟨by decide +kernel⟩
theorem rAe_34_true : AeP 34 true := ⟨by decide +kernel⟩
theorem rAe_34_false : AeP 34 false := ⟨by decide +kernel⟩
theorem rAe_35_true : AeP 35 true := ⟨by decide +kernel⟩
theorem rAe_35_false : AeP 35 false := ⟨by decide +kernel⟩
end Go.Proofs.Ythemmbebpkbmbaa.Sx
