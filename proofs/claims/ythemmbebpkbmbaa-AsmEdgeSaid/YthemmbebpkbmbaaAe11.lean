/- AsmEdge: runs. -/
import Derived.Test.YthemmbebpkbmbaaAeBase
namespace Go.Proofs.Ythemmbebpkbmbaa.Sx
open Go
set_option linter.unusedVariables false
set_option linter.unusedSimpArgs false
set_option maxRecDepth 100000
theorem rAe_44_true : AeP 44 true := ⟨by decide +kernel⟩
theorem rAe_44_false : AeP 44 false := ⟨by decide +kernel⟩
theorem rAe_45_true : AeP 45 true := ⟨by decide +kernel⟩
theorem rAe_45_false : AeP 45 false := ⟨by decide +kernel⟩
theorem rAe_46_true : AeP 46 true := ⟨by decide +kernel⟩
theorem rAe_46_false : AeP 46 false := ⟨by decide +kernel⟩
theorem rAe_47_true : AeP 47 true := ⟨by decide +kernel⟩
theorem rAe_47_false : AeP 47 false := ⟨by decide +kernel⟩
end Go.Proofs.Ythemmbebpkbmbaa.Sx
