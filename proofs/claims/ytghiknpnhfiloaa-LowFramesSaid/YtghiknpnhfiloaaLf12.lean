/- LowFrames: the runs for 12 and 19. -/
import Derived.Test.YtghiknpnhfiloaaLfBase
namespace Go.Proofs.Ytghiknpnhfiloaa.Sx
open Go
set_option linter.unusedVariables false
set_option linter.unusedSimpArgs false
set_option maxRecDepth 100000
theorem lf0_12 : LfP 0 12 := ⟨by decide +kernel⟩
theorem lf1_12 : LfP 1 12 := ⟨by decide +kernel⟩
theorem lf2_12 : LfP 2 12 := ⟨by decide +kernel⟩
theorem lf3_12 : LfP 3 12 := ⟨by decide +kernel⟩
theorem lf4_12 : LfP 4 12 := ⟨by decide +kernel⟩
theorem lf5_12 : LfP 5 12 := ⟨by decide +kernel⟩
theorem lf6_12 : LfP 6 12 := ⟨by decide +kernel⟩
theorem lf7_12 : LfP 7 12 := ⟨by decide +kernel⟩
theorem lf8_12 : LfP 8 12 := ⟨by decide +kernel⟩
theorem lf9_12 : LfP 9 12 := ⟨by decide +kernel⟩
theorem lf10_12 : LfP 10 12 := ⟨by decide +kernel⟩
theorem lf11_12 : LfP 11 12 := ⟨by decide +kernel⟩
theorem lf12_12 : LfP 12 12 := ⟨by decide +kernel⟩
theorem lf13_12 : LfP 13 12 := ⟨by decide +kernel⟩
theorem lf14_12 : LfP 14 12 := ⟨by decide +kernel⟩
theorem lf15_12 : LfP 15 12 := ⟨by decide +kernel⟩
theorem lf0_19 : LfP 0 19 := ⟨by decide +kernel⟩
theorem lf1_19 : LfP 1 19 := ⟨by decide +kernel⟩
theorem lf2_19 : LfP 2 19 := ⟨by decide +kernel⟩
theorem lf3_19 : LfP 3 19 := ⟨by decide +kernel⟩
theorem lf4_19 : LfP 4 19 := ⟨by decide +kernel⟩
theorem lf5_19 : LfP 5 19 := ⟨by decide +kernel⟩
theorem lf6_19 : LfP 6 19 := ⟨by decide +kernel⟩
theorem lf7_19 : LfP 7 19 := ⟨by decide +kernel⟩
theorem lf8_19 : LfP 8 19 := ⟨by decide +kernel⟩
theorem lf9_19 : LfP 9 19 := ⟨by decide +kernel⟩
theorem lf10_19 : LfP 10 19 := ⟨by decide +kernel⟩
theorem lf11_19 : LfP 11 19 := ⟨by decide +kernel⟩
theorem lf12_19 : LfP 12 19 := ⟨by decide +kernel⟩
theorem lf13_19 : LfP 13 19 := ⟨by decide +kernel⟩
theorem lf14_19 : LfP 14 19 := ⟨by decide +kernel⟩
theorem lf15_19 : LfP 15 19 := ⟨by decide +kernel⟩
end Go.Proofs.Ytghiknpnhfiloaa.Sx
