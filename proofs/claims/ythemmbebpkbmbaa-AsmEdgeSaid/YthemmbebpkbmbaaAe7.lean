/- AsmEdge: runs. -/
import Derived.Test.YthemmbebpkbmbaaAeBase
namespace Go.Proofs.Ythemmbebpkbmbaa.Sx
open Go
set_option linter.unusedVariables false
set_option linter.unusedSimpArgs false
set_option maxRecDepth 100000
theorem rAe_28_true : AeP 28 true := ⟨by decide +kernel⟩
theorem rAe_28_false : AeP 28 false := ⟨by decide +kernel⟩
theorem rAe_29_true : AeP 29 true := ⟨by decide +kernel⟩
theorem rAe_29_false : AeP 29 false := ⟨by decide +kernel⟩
theorem rAe_30_true : AeP 30 true := ⟨by decide +kernel⟩
theorem rAe_30_false : AeP 30 false := ⟨by decide +kernel⟩
theorem rAe_31_true : AeP 31 true := ⟨by decide +kernel⟩
theorem rAe_31_false : AeP 31 false := ⟨by decide +kernel⟩
end Go.Proofs.Ythemmbebpkbmbaa.Sx
