/- LowFrames: the runs for 1 and 30. -/
import Derived.Test.YtghiknpnhfiloaaLfBase
namespace Go.Proofs.Ytghiknpnhfiloaa.Sx
open Go
set_option linter.unusedVariables false
set_option linter.unusedSimpArgs false
set_option maxRecDepth 100000
theorem lf0_1 : LfP 0 1 := ⟨by decide +kernel⟩
theorem lf1_1 : LfP 1 1 := ⟨by decide +kernel⟩
theorem lf2_1 : LfP 2 1 := ⟨by decide +kernel⟩
theorem lf3_1 : LfP 3 1 := ⟨by decide +kernel⟩
theorem lf4_1 : LfP 4 1 := ⟨by decide +kernel⟩
theorem lf5_1 : LfP 5 1 := ⟨by decide +kernel⟩
theorem lf6_1 : LfP 6 1 := ⟨by decide +kernel⟩
theorem lf7_1 : LfP 7 1 := ⟨by decide +kernel⟩
theorem lf8_1 : LfP 8 1 := ⟨by decide +kernel⟩
theorem lf9_1 : LfP 9 1 := ⟨by decide +kernel⟩
theorem lf10_1 : LfP 10 1 := ⟨by decide +kernel⟩
theorem lf11_1 : LfP 11 1 := ⟨by decide +kernel⟩
theorem lf12_1 : LfP 12 1 := ⟨by decide +kernel⟩
theorem lf13_1 : LfP 13 1 := ⟨by decide +kernel⟩
theorem lf14_1 : LfP 14 1 := ⟨by decide +kernel⟩
theorem lf15_1 : LfP 15 1 := ⟨by decide +kernel⟩
theorem lf0_30 : LfP 0 30 := ⟨by decide +kernel⟩
theorem lf1_30 : LfP 1 30 := ⟨by decide +kernel⟩
theorem lf2_30 : LfP 2 30 := ⟨by decide +kernel⟩
theorem lf3_30 : LfP 3 30 := ⟨by decide +kernel⟩
theorem lf4_30 : LfP 4 30 := ⟨by decide +kernel⟩
theorem lf5_30 : LfP 5 30 := ⟨by decide +kernel⟩
theorem lf6_30 : LfP 6 30 := ⟨by decide +kernel⟩
theorem lf7_30 : LfP 7 30 := ⟨by decide +kernel⟩
theorem lf8_30 : LfP 8 30 := ⟨by decide +kernel⟩
theorem lf9_30 : LfP 9 30 := ⟨by decide +kernel⟩
theorem lf10_30 : LfP 10 30 := ⟨by decide +kernel⟩
theorem lf11_30 : LfP 11 30 := ⟨by decide +kernel⟩
theorem lf12_30 : LfP 12 30 := ⟨by decide +kernel⟩
theorem lf13_30 : LfP 13 30 := ⟨by decide +kernel⟩
theorem lf14_30 : LfP 14 30 := ⟨by decide +kernel⟩
theorem lf15_30 : LfP 15 30 := ⟨by decide +kernel⟩
end Go.Proofs.Ytghiknpnhfiloaa.Sx
