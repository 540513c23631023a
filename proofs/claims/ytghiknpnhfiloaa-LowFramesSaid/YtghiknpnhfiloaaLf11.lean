/- LowFrames: the runs for 11 and 20. -/
import Derived.Test.YtghiknpnhfiloaaLfBase
namespace Go.Proofs.Ytghiknpnhfiloaa.Sx
open Go
set_option linter.unusedVariables false
set_option linter.unusedSimpArgs false
set_option maxRecDepth 100000
theorem lf0_11 : LfP 0 11 := ⟨by decide +kernel⟩
theorem lf1_11 : LfP 1 11 := ⟨by decide +kernel⟩
theorem lf2_11 : LfP 2 11 := ⟨by decide +kernel⟩
theorem lf3_11 : LfP 3 11 := ⟨by decide +kernel⟩
theorem lf4_11 : LfP 4 11 := ⟨by decide +kernel⟩
theorem lf5_11 : LfP 5 11 := ⟨by decide +kernel⟩
theorem lf6_11 : LfP 6 11 := ⟨by decide +kernel⟩
theorem lf7_11 : LfP 7 11 := ⟨by decide +kernel⟩
theorem lf8_11 : LfP 8 11 := ⟨by decide +kernel⟩
theorem lf9_11 : LfP 9 11 := ⟨by decide +kernel⟩
theorem lf10_11 : LfP 10 11 := ⟨by decide +kernel⟩
theorem lf11_11 : LfP 11 11 := ⟨by decide +kernel⟩
theorem lf12_11 : LfP 12 11 := ⟨by decide +kernel⟩
theorem lf13_11 : LfP 13 11 := ⟨by decide +kernel⟩
theorem lf14_11 : LfP 14 11 := ⟨by decide +kernel⟩
theorem lf15_11 : LfP 15 11 := ⟨by decide +kernel⟩
theorem lf0_20 : LfP 0 20 := ⟨by decide +kernel⟩
theorem lf1_20 : LfP 1 20 := ⟨by decide +kernel⟩
theorem lf2_20 : LfP 2 20 := ⟨by decide +kernel⟩
theorem lf3_20 : LfP 3 20 := ⟨by decide +kernel⟩
theorem lf4_20 : LfP 4 20 := ⟨by decide +kernel⟩
theorem lf5_20 : LfP 5 20 := ⟨by decide +kernel⟩
theorem lf6_20 : LfP 6 20 := ⟨by decide +kernel⟩
theorem lf7_20 : LfP 7 20 := ⟨by decide +kernel⟩
theorem lf8_20 : LfP 8 20 := ⟨by decide +kernel⟩
theorem lf9_20 : LfP 9 20 := ⟨by decide +kernel⟩
theorem lf10_20 : LfP 10 20 := ⟨by decide +kernel⟩
theorem lf11_20 : LfP 11 20 := ⟨by decide +kernel⟩
theorem lf12_20 : LfP 12 20 := ⟨by decide +kernel⟩
theorem lf13_20 : LfP 13 20 := ⟨by decide +kernel⟩
theorem lf14_20 : LfP 14 20 := ⟨by decide +kernel⟩
theorem lf15_20 : LfP 15 20 := ⟨by decide +kernel⟩
end Go.Proofs.Ytghiknpnhfiloaa.Sx
