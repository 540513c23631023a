/- LowFrames: the runs for 15 and 16. -/
import Derived.Test.YtghiknpnhfiloaaLfBase
namespace Go.Proofs.Ytghiknpnhfiloaa.Sx
open Go
set_option linter.unusedVariables false
set_option linter.unusedSimpArgs false
set_option maxRecDepth 100000
theorem lf0_15 : LfP 0 15 := ⟨by decide +kernel⟩
theorem lf1_15 : LfP 1 15 := ⟨by decide +kernel⟩
theorem lf2_15 : LfP 2 15 := ⟨by decide +kernel⟩
theorem lf3_15 : LfP 3 15 := ⟨by decide +kernel⟩
theorem lf4_15 : LfP 4 15 := ⟨by decide +kernel⟩
theorem lf5_15 : LfP 5 15 := ⟨by decide +kernel⟩
theorem lf6_15 : LfP 6 15 := ⟨by decide +kernel⟩
theorem lf7_15 : LfP 7 15 := ⟨by decide +kernel⟩
theorem lf8_15 : LfP 8 15 := ⟨by decide +kernel⟩
theorem lf9_15 : LfP 9 15 := ⟨by decide +kernel⟩
theorem lf10_15 : LfP 10 15 := ⟨by decide +kernel⟩
theorem lf11_15 : LfP 11 15 := ⟨by decide +kernel⟩
theorem lf12_15 : LfP 12 15 := ⟨by decide +kernel⟩
theorem lf13_15 : LfP 13 15 := ⟨by decide +kernel⟩
theorem lf14_15 : LfP 14 15 := ⟨by decide +kernel⟩
theorem lf15_15 : LfP 15 15 := ⟨by decide +kernel⟩
theorem lf0_16 : LfP 0 16 := ⟨by decide +kernel⟩
theorem lf1_16 : LfP 1 16 := ⟨by decide +kernel⟩
theorem lf2_16 : LfP 2 16 := ⟨by decide +kernel⟩
theorem lf3_16 : LfP 3 16 := ⟨by decide +kernel⟩
theorem lf4_16 : LfP 4 16 := ⟨by decide +kernel⟩
theorem lf5_16 : LfP 5 16 := ⟨by decide +kernel⟩
theorem lf6_16 : LfP 6 16 := ⟨by decide +kernel⟩
theorem lf7_16 : LfP 7 16 := ⟨by decide +kernel⟩
theorem lf8_16 : LfP 8 16 := ⟨by decide +kernel⟩
theorem lf9_16 : LfP 9 16 := ⟨by decide +kernel⟩
theorem lf10_16 : LfP 10 16 := ⟨by decide +kernel⟩
theorem lf11_16 : LfP 11 16 := ⟨by decide +kernel⟩
theorem lf12_16 : LfP 12 16 := ⟨by decide +kernel⟩
theorem lf13_16 : LfP 13 16 := ⟨by decide +kernel⟩
theorem lf14_16 : LfP 14 16 := ⟨by decide +kernel⟩
theorem lf15_16 : LfP 15 16 := ⟨by decide +kernel⟩
end Go.Proofs.Ytghiknpnhfiloaa.Sx
