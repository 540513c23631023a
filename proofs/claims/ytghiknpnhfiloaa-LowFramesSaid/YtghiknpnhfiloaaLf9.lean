/- LowFrames: the runs for 9 and 22. -/
import Derived.Test.YtghiknpnhfiloaaLfBase
namespace Go.Proofs.Ytghiknpnhfiloaa.Sx
open Go
set_option linter.unusedVariables false
set_option linter.unusedSimpArgs false
set_option maxRecDepth 100000
theorem lf0_9 : LfP 0 9 := ⟨by decide +kernel⟩
theorem lf1_9 : LfP 1 9 := ⟨by decide +kernel⟩
theorem lf2_9 : LfP 2 9 := ⟨by decide +kernel⟩
theorem lf3_9 : LfP 3 9 := ⟨by decide +kernel⟩
theorem lf4_9 : LfP 4 9 := ⟨by decide +kernel⟩
theorem lf5_9 : LfP 5 9 := ⟨by decide +kernel⟩
theorem lf6_9 : LfP 6 9 := ⟨by decide +kernel⟩
theorem lf7_9 : LfP 7 9 := ⟨by decide +kernel⟩
theorem lf8_9 : LfP 8 9 := ⟨by decide +kernel⟩
theorem lf9_9 : LfP 9 9 := ⟨by decide +kernel⟩
theorem lf10_9 : LfP 10 9 := ⟨by decide +kernel⟩
theorem lf11_9 : LfP 11 9 := ⟨by decide +kernel⟩
theorem lf12_9 : LfP 12 9 := ⟨by decide +kernel⟩
theorem lf13_9 : LfP 13 9 := ⟨by decide +kernel⟩
theorem lf14_9 : LfP 14 9 := ⟨by decide +kernel⟩
theorem lf15_9 : LfP 15 9 := ⟨by decide +kernel⟩
theorem lf0_22 : LfP 0 22 := ⟨by decide +kernel⟩
theorem lf1_22 : LfP 1 22 := ⟨by decide +kernel⟩
theorem lf2_22 : LfP 2 22 := ⟨by decide +kernel⟩
theorem lf3_22 : LfP 3 22 := ⟨by decide +kernel⟩
theorem lf4_22 : LfP 4 22 := ⟨by decide +kernel⟩
theorem lf5_22 : LfP 5 22 := ⟨by decide +kernel⟩
theorem lf6_22 : LfP 6 22 := ⟨by decide +kernel⟩
theorem lf7_22 : LfP 7 22 := ⟨by decide +kernel⟩
theorem lf8_22 : LfP 8 22 := ⟨by decide +kernel⟩
theorem lf9_22 : LfP 9 22 := ⟨by decide +kernel⟩
theorem lf10_22 : LfP 10 22 := ⟨by decide +kernel⟩
theorem lf11_22 : LfP 11 22 := ⟨by decide +kernel⟩
theorem lf12_22 : LfP 12 22 := ⟨by decide +kernel⟩
theorem lf13_22 : LfP 13 22 := ⟨by decide +kernel⟩
theorem lf14_22 : LfP 14 22 := ⟨by decide +kernel⟩
theorem lf15_22 : LfP 15 22 := ⟨by decide +kernel⟩
end Go.Proofs.Ytghiknpnhfiloaa.Sx
