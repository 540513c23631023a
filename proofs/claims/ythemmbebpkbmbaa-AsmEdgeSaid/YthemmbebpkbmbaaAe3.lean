/- AsmEdge: runs. -/
import Derived.Test.YthemmbebpkbmbaaAeBase
namespace Go.Proofs.Ythemmbebpkbmbaa.Sx
open Go
set_option linter.unusedVariables false
set_option linter.unusedSimpArgs false
set_option maxRecDepth 100000
theorem rAe_12_true : AeP 12 true := ⟨by decide +kernel⟩
theorem rAe_12_false : AeP 12 false := ⟨by decide +kernel⟩
theorem rAe_13_true : AeP 13 true := ⟨by decide +kernel⟩
theorem rAe_13_false : AeP 13 false := ⟨by decide +kernel⟩
theorem rAe_14_true : AeP 14 true := ⟨by decide +kernel⟩
theorem rAe_14_false : AeP 14 false := ⟨by decide +kernel⟩
theorem rAe_15_true : AeP 15 true := ⟨by decide +kernel⟩
theorem rAe_15_false : AeP 15 false := ⟨by decide +kernel⟩
end Go.Proofs.Ythemmbebpkbmbaa.Sx
