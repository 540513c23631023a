/- AsmEdge: runs. -/
import Derived.Test.YthemmbebpkbmbaaAeBase
namespace Go.Proofs.Ythemmbebpkbmbaa.Sx
open Go
set_option linter.unusedVariables false
set_option linter.unusedSimpArgs false
set_option maxRecDepth 100000
theorem rAe_40_true : AeP 40 true := ⟨by decide +kernel⟩
theorem rAe_40_false : AeP 40 false := ⟨by decide +kernel⟩
theorem rAe_41_true : AeP 41 true := ⟨by decide +kernel⟩
theorem rAe_41_false : AeP 41 false := ⟨by decide +kernel⟩
theorem rAe_42_true : AeP 42 true := ⟨by decide +kernel⟩
theorem rAe_42_false : AeP 42 false := ⟨by decide +kernel⟩
theorem rAe_43_true : AeP 43 true := ⟨by decide +kernel⟩
theorem rAe_43_false : AeP 43 false := ⟨by decide +kernel⟩
end Go.Proofs.Ythemmbebpkbmbaa.Sx
