/- AsmEdge: runs. -/
import Derived.Test.YthemmbebpkbmbaaAeBase
namespace Go.Proofs.Ythemmbebpkbmbaa.Sx
open Go
set_option linter.unusedVariables false
set_option linter.unusedSimpArgs false
set_option maxRecDepth 100000
theorem rAe_24_true : AeP 24 true := ⟨by decide +kernel⟩
theorem rAe_24_false : AeP 24 false := ⟨by decide +kernel⟩
theorem rAe_25_true : AeP 25 true := ⟨by decide +kernel⟩
theorem rAe_25_false : AeP 25 false := ⟨by decide +kernel⟩
theorem rAe_26_true : AeP 26 true := ⟨by decide +kernel⟩
theorem rAe_26_false : AeP 26 false := ⟨by decide +kernel⟩
theorem rAe_27_true : AeP 27 true := ⟨by decide +kernel⟩
theorem rAe_27_false : AeP 27 false := ⟨by decide +kernel⟩
end Go.Proofs.Ythemmbebpkbmbaa.Sx
