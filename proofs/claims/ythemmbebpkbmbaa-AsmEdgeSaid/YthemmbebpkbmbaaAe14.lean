/- AsmEdge: runs. -/
import Derived.Test.YthemmbebpkbmbaaAeBase
namespace Go.Proofs.Ythemmbebpkbmbaa.Sx
open Go
set_option linter.unusedVariables false
set_option linter.unusedSimpArgs false
set_option maxRecDepth 100000
theorem rAe_56_true : AeP 56 true := ⟨by decide +kernel⟩
theorem rAe_56_false : AeP 56 false := ⟨by decide +kernel⟩
theorem rAe_57_true : AeP 57 true := ⟨by decide +kernel⟩
theorem rAe_57_false : AeP 57 false := ⟨by decide +kernel⟩
theorem rAe_58_true : AeP 58 true := ⟨by decide +kernel⟩
theorem rAe_58_false : AeP 58 false := ⟨by decide +kernel⟩
theorem rAe_59_true : AeP 59 true := ⟨by decide +kernel⟩
theorem rAe_59_false : AeP 59 false := ⟨by decide +kernel⟩
end Go.Proofs.Ythemmbebpkbmbaa.Sx
