/- AsmEdge: runs. -/
import Derived.Test.YthemmbebpkbmbaaAeBase
namespace Go.Proofs.Ythemmbebpkbmbaa.Sx
open Go
set_option linter.unusedVariables false
set_option linter.unusedSimpArgs false
set_option maxRecDepth 100000
theorem rAe_16_true : AeP 16 true := ⟨by decide +kernel⟩
theorem rAe_16_false : AeP 16 false := ⟨by decide +kernel⟩
theorem rAe_17_true : AeP 17 true := ⟨by decide +kernel⟩
theorem rAe_17_false : AeP 17 false := ⟨by decide +kernel⟩
theorem rAe_18_true : AeP 18 true := ⟨by decide +kernel⟩
theorem rAe_18_false : AeP 18 false := ⟨by decide +kernel⟩
theorem rAe_19_true : AeP 19 true := ⟨by decide +kernel⟩
theorem rAe_19_false : AeP 19 false := ⟨by decide +kernel⟩
end Go.Proofs.Ythemmbebpkbmbaa.Sx
