/- AsmEdge: runs. -/
import Derived.Test.YthemmbebpkbmbaaAeBase
namespace Go.Proofs.Ythemmbebpkbmbaa.Sx
open Go
set_option linter.unusedVariables false
set_option linter.unusedSimpArgs false
set_option maxRecDepth 100000
theorem rAe_60_true : AeP 60 true := ⟨by decide +kernel⟩
theorem rAe_60_false : AeP 60 false := ⟨by decide +kernel⟩
theorem rAe_61_true : AeP 61 true := ⟨by decide +kernel⟩
theorem rAe_61_false : AeP 61 false := ⟨by decide +kernel⟩
theorem rAe_62_true : AeP 62 true := ⟨by decide +kernel⟩
theorem rAe_62_false : AeP 62 false := ⟨by decide +kernel⟩
theorem rAe_63_true : AeP 63 true := ⟨by decide +kernel⟩
theorem rAe_63_false : AeP 63 false := ⟨by decide +kernel⟩
end Go.Proofs.Ythemmbebpkbmbaa.Sx
