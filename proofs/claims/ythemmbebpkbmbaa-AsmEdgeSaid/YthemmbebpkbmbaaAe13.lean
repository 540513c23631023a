/- AsmEdge: runs. -/
import Derived.Test.YthemmbebpkbmbaaAeBase
namespace Go.Proofs.Ythemmbebpkbmbaa.Sx
open Go
set_option linter.unusedVariables false
set_option linter.unusedSimpArgs false
set_option maxRecDepth 100000
theorem rAe_52_true : AeP 52 true := ⟨by decide +kernel⟩
theorem rAe_52_false : AeP 52 false := ⟨by decide +kernel⟩
theorem rAe_53_true : AeP 53 true := ⟨by decide +kernel⟩
theorem rAe_53_false : AeP 53 false := ⟨by decide +kernel⟩
theorem rAe_54_true : AeP 54 true := ⟨by decide +kernel⟩
theorem rAe_54_false : AeP 54 false := ⟨by decide +kernel⟩
theorem rAe_55_true : AeP 55 true := ⟨by decide +kernel⟩
theorem rAe_55_false : AeP 55 false := ⟨by decide +kernel⟩
end Go.Proofs.Ythemmbebpkbmbaa.Sx
