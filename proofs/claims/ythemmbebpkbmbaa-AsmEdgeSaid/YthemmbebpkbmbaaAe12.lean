/- AsmEdge: runs. -/
import Derived.Test.YthemmbebpkbmbaaAeBase
namespace Go.Proofs.Ythemmbebpkbmbaa.Sx
open Go
set_option linter.unusedVariables false
set_option linter.unusedSimpArgs false
set_option maxRecDepth 100000
theorem rAe_48_true : AeP 48 true := ⟨by decide +kernel⟩
theorem rAe_48_false : AeP 48 false := ⟨by decide +kernel⟩
theorem rAe_49_true : AeP 49 true := ⟨by decide +kernel⟩
theorem rAe_49_false : AeP 49 false := ⟨by decide +kernel⟩
theorem rAe_50_true : AeP 50 true := ⟨by decide +kernel⟩
theorem rAe_50_false : AeP 50 false := ⟨by decide +kernel⟩
theorem rAe_51_true : AeP 51 true := ⟨by decide +kernel⟩
theorem rAe_51_false : AeP 51 false := ⟨by decide +kernel⟩
end Go.Proofs.Ythemmbebpkbmbaa.Sx
