/- LowFrames: the runs for 3 and 28. -/
import Derived.Test.YtghiknpnhfiloaaLfBase
namespace Go.Proofs.Ytghiknpnhfiloaa.Sx
open Go
set_option linter.unusedVariables false
set_option linter.unusedSimpArgs false
set_option maxRecDepth 100000
theorem lf0_3 : LfP 0 3 := ⟨by decide +kernel⟩
theorem lf1_3 : LfP 1 3 := ⟨by decide +kernel⟩
theorem lf2_3 : LfP 2 3 := ⟨by decide +kernel⟩
theorem lf3_3 : LfP 3 3 := ⟨by decide +kernel⟩
theorem lf4_3 : LfP 4 3 := ⟨by decide +kernel⟩
theorem lf5_3 : LfP 5 3 := ⟨by decide +kernel⟩
theorem lf6_3 : LfP 6 3 := ⟨by decide +kernel⟩
theorem lf7_3 : LfP 7 3 := ⟨by decide +kernel⟩
theorem lf8_3 : LfP 8 3 := ⟨by decide +kernel⟩
theorem lf9_3 : LfP 9 3 := ⟨by decide +kernel⟩
theorem lf10_3 : LfP 10 3 := ⟨by decide +kernel⟩
theorem lf11_3 : LfP 11 3 := ⟨by decide +kernel⟩
theorem lf12_3 : LfP 12 3 := ⟨by decide +kernel⟩
theorem lf13_3 : LfP 13 3 := ⟨by decide +kernel⟩
theorem lf14_3 : LfP 14 3 := ⟨by decide +kernel⟩
theorem lf15_3 : LfP 15 3 := ⟨by decide +kernel⟩
theorem lf0_28 : LfP 0 28 := ⟨by decide +kernel⟩
theorem lf1_28 : LfP 1 28 := ⟨by decide +kernel⟩
theorem lf2_28 : LfP 2 28 := ⟨by decide +kernel⟩
theorem lf3_28 : LfP 3 28 := ⟨by decide +kernel⟩
theorem lf4_28 : LfP 4 28 := ⟨by decide +kernel⟩
theorem lf5_28 : LfP 5 28 := ⟨by decide +kernel⟩
theorem lf6_28 : LfP 6 28 := ⟨by decide +kernel⟩
theorem lf7_28 : LfP 7 28 := ⟨by decide +kernel⟩
theorem lf8_28 : LfP 8 28 := ⟨by decide +kernel⟩
theorem lf9_28 : LfP 9 28 := ⟨by decide +kernel⟩
theorem lf10_28 : LfP 10 28 := ⟨by decide +kernel⟩
theorem lf11_28 : LfP 11 28 := ⟨by decide +kernel⟩
theorem lf12_28 : LfP 12 28 := ⟨by decide +kernel⟩
theorem lf13_28 : LfP 13 28 := ⟨by decide +kernel⟩
theorem lf14_28 : LfP 14 28 := ⟨by decide +kernel⟩
theorem lf15_28 : LfP 15 28 := ⟨by decide +kernel⟩
end Go.Proofs.Ytghiknpnhfiloaa.Sx
