/- AsmEdge: runs. -/
import Derived.Test.YthemmbebpkbmbaaAeBase
namespace Go.Proofs.Ythemmbebpkbmbaa.Sx
open Go
set_option linter.unusedVariables false
set_option linter.unusedSimpArgs false
set_option maxRecDepth 100000
theorem rAe_36_true : AeP 36 true := ⟨by decide +kernel⟩
theorem rAe_36_false : AeP 36 false := ⟨by decide +kernel⟩
theorem rAe_37_true : AeP 37 true := ⟨by decide +kernel⟩
theorem rAe_37_false : AeP 37 false := ⟨by decide +kernel⟩
theorem rAe_38_true : AeP 38 true := ⟨by decide +kernel⟩
theorem rAe_38_false : AeP 38 false := ⟨by decide +kernel⟩
theorem rAe_39_true : AeP 39 true := ⟨by decide +kernel⟩
theorem rAe_39_false : AeP 39 false := ⟨by decide +kernel⟩
end Go.Proofs.Ythemmbebpkbmbaa.Sx
