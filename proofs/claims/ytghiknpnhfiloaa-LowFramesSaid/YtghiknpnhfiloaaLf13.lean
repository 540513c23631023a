/- LowFrames: the runs for 13 and 18. -/
import Derived.Test.YtghiknpnhfiloaaLfBase
namespace Go.Proofs.Ytghiknpnhfiloaa.Sx
open Go
set_option linter.unusedVariables false
set_option linter.unusedSimpArgs false
set_option maxRecDepth 100000
theorem lf0_13 : LfP 0 13 := ⟨by decide +kernel⟩
theorem lf1_13 : LfP 1 13 := ⟨by decide +kernel⟩
theorem lf2_13 : LfP 2 13 := ⟨by decide +kernel⟩
theorem lf3_13 : LfP 3 13 := ⟨by decide +kernel⟩
theorem lf4_13 : LfP 4 13 := ⟨by decide +kernel⟩
theorem lf5_13 : LfP 5 13 := ⟨by decide +kernel⟩
theorem lf6_13 : LfP 6 13 := ⟨by decide +kernel⟩
theorem lf7_13 : LfP 7 13 := ⟨by decide +kernel⟩
theorem lf8_13 : LfP 8 13 := ⟨by decide +kernel⟩
theorem lf9_13 : LfP 9 13 := ⟨by decide +kernel⟩
theorem lf10_13 : LfP 10 13 := ⟨by decide +kernel⟩
theorem lf11_13 : LfP 11 13 := ⟨by decide +kernel⟩
theorem lf12_13 : LfP 12 13 := ⟨by decide +kernel⟩
theorem lf13_13 : LfP 13 13 := ⟨by decide +kernel⟩
theorem lf14_13 : LfP 14 13 := ⟨by decide +kernel⟩
theorem lf15_13 : LfP 15 13 := ⟨by decide +kernel⟩
theorem lf0_18 : LfP 0 18 := ⟨by decide +kernel⟩
theorem lf1_18 : LfP 1 18 := ⟨by decide +kernel⟩
theorem lf2_18 : LfP 2 18 := ⟨by decide +kernel⟩
theorem lf3_18 : LfP 3 18 := ⟨by decide +kernel⟩
theorem lf4_18 : LfP 4 18 := ⟨by decide +kernel⟩
theorem lf5_18 : LfP 5 18 := ⟨by decide +kernel⟩
theorem lf6_18 : LfP 6 18 := ⟨by decide +kernel⟩
theorem lf7_18 : LfP 7 18 := ⟨by decide +kernel⟩
theorem lf8_18 : LfP 8 18 := ⟨by decide +kernel⟩
theorem lf9_18 : LfP 9 18 := ⟨by decide +kernel⟩
theorem lf10_18 : LfP 10 18 := ⟨by decide +kernel⟩
theorem lf11_18 : LfP 11 18 := ⟨by decide +kernel⟩
theorem lf12_18 : LfP 12 18 := ⟨by decide +kernel⟩
theorem lf13_18 : LfP 13 18 := ⟨by decide +kernel⟩
theorem lf14_18 : LfP 14 18 := ⟨by decide +kernel⟩
theorem lf15_18 : LfP 15 18 := ⟨by decide +kernel⟩
end Go.Proofs.Ytghiknpnhfiloaa.Sx
