/- AsmEdge: runs. -/
import Derived.Test.YthemmbebpkbmbaaAeBase
namespace Go.Proofs.Ythemmbebpkbmbaa.Sx
open Go
set_option linter.unusedVariables false
set_option linter.unusedSimpArgs false
set_option maxRecDepth 100000
theorem rAe_8_true : AeP 8 true := ⟨by decide +kernel⟩
theorem rAe_8_false : AeP 8 false := ⟨by decide +kernel⟩
theorem rAe_9_true : AeP 9 true := ⟨by decide +kernel⟩
theorem rAe_9_false : AeP 9 false := ⟨by decide +kernel⟩
theorem rAe_10_true : AeP 10 true := ⟨by decide +kernel⟩
theorem rAe_10_false : AeP 10 false := ⟨by decide +kernel⟩
theorem rAe_11_true : AeP 11 true := ⟨by decide +kernel⟩
theorem rAe_11_false : AeP 11 false := ⟨by decide +kernel⟩
end Go.Proofs.Ythemmbebpkbmbaa.Sx
