/- LowFrames: the runs for 6 and 25. -/
import Derived.Test.YtghiknpnhfiloaaLfBase
namespace Go.Proofs.Ytghiknpnhfiloaa.Sx
open Go
set_option linter.unusedVariables false
set_option linter.unusedSimpArgs false
set_option maxRecDepth 100000
theorem lf0_6 : LfP 0 6 := ⟨by decide +kernel⟩
theorem lf1_6 : LfP 1 6 := ⟨by decide +kernel⟩
theorem lf2_6 : LfP 2 6 := ⟨by decide +kernel⟩
theorem lf3_6 : LfP 3 6 := ⟨by decide +kernel⟩
theorem lf4_6 : LfP 4 6 := ⟨by decide +kernel⟩
theorem lf5_6 : LfP 5 6 := ⟨by decide +kernel⟩
theorem lf6_6 : LfP 6 6 := ⟨by decide +kernel⟩
theorem lf7_6 : LfP 7 6 := ⟨by decide +kernel⟩
theorem lf8_6 : LfP 8 6 := ⟨by decide +kernel⟩
theorem lf9_6 : LfP 9 6 := ⟨by decide +kernel⟩
theorem lf10_6 : LfP 10 6 := ⟨by decide +kernel⟩
theorem lf11_6 : LfP 11 6 := ⟨by decide +kernel⟩
theorem lf12_6 : LfP 12 6 := ⟨by decide +kernel⟩
theorem lf13_6 : LfP 13 6 := ⟨by decide +kernel⟩
theorem lf14_6 : LfP 14 6 := ⟨by decide +kernel⟩
theorem lf15_6 : LfP 15 6 := ⟨by decide +kernel⟩
theorem lf0_25 : LfP 0 25 := ⟨by decide +kernel⟩
theorem lf1_25 : LfP 1 25 := ⟨by decide +kernel⟩
theorem lf2_25 : LfP 2 25 := ⟨by decide +kernel⟩
theorem lf3_25 : LfP 3 25 := ⟨by decide +kernel⟩
theorem lf4_25 : LfP 4 25 := ⟨by decide +kernel⟩
theorem lf5_25 : LfP 5 25 := ⟨by decide +kernel⟩
theorem lf6_25 : LfP 6 25 := ⟨by decide +kernel⟩
theorem lf7_25 : LfP 7 25 := ⟨by decide +kernel⟩
theorem lf8_25 : LfP 8 25 := ⟨by decide +kernel⟩
theorem lf9_25 : LfP 9 25 := ⟨by decide +kernel⟩
theorem lf10_25 : LfP 10 25 := ⟨by decide +kernel⟩
theorem lf11_25 : LfP 11 25 := ⟨by decide +kernel⟩
theorem lf12_25 : LfP 12 25 := ⟨by decide +kernel⟩
theorem lf13_25 : LfP 13 25 := ⟨by decide +kernel⟩
theorem lf14_25 : LfP 14 25 := ⟨by decide +kernel⟩
theorem lf15_25 : LfP 15 25 := ⟨by decide +kernel⟩
end Go.Proofs.Ytghiknpnhfiloaa.Sx
