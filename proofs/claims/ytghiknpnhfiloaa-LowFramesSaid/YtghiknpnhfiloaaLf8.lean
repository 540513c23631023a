/- LowFrames: the runs for 8 and 23. -/
import Derived.Test.YtghiknpnhfiloaaLfBase
namespace Go.Proofs.Ytghiknpnhfiloaa.Sx
open Go
set_option linter.unusedVariables false
set_option linter.unusedSimpArgs false
set_option maxRecDepth 100000
theorem lf0_8 : LfP 0 8 := ⟨by decide +kernel⟩
theorem lf1_8 : LfP 1 8 := ⟨by decide +kernel⟩
theorem lf2_8 : LfP 2 8 := ⟨by decide +kernel⟩
theorem lf3_8 : LfP 3 8 := ⟨by decide +kernel⟩
theorem lf4_8 : LfP 4 8 := ⟨by decide +kernel⟩
theorem lf5_8 : LfP 5 8 := ⟨by decide +kernel⟩
theorem lf6_8 : LfP 6 8 := ⟨by decide +kernel⟩
theorem lf7_8 : LfP 7 8 := ⟨by decide +kernel⟩
theorem lf8_8 : LfP 8 8 := ⟨by decide +kernel⟩
theorem lf9_8 : LfP 9 8 := ⟨by decide +kernel⟩
theorem lf10_8 : LfP 10 8 := ⟨by decide +kernel⟩
theorem lf11_8 : LfP 11 8 := ⟨by decide +kernel⟩
theorem lf12_8 : LfP 12 8 := ⟨by decide +kernel⟩
theorem lf13_8 : LfP 13 8 := ⟨by decide +kernel⟩
theorem lf14_8 : LfP 14 8 := ⟨by decide +kernel⟩
theorem lf15_8 : LfP 15 8 := ⟨by decide +kernel⟩
theorem lf0_23 : LfP 0 23 := ⟨by decide +kernel⟩
theorem lf1_23 : LfP 1 23 := ⟨by decide +kernel⟩
theorem lf2_23 : LfP 2 23 := ⟨by decide +kernel⟩
theorem lf3_23 : LfP 3 23 := ⟨by decide +kernel⟩
theorem lf4_23 : LfP 4 23 := ⟨by decide +kernel⟩
theorem lf5_23 : LfP 5 23 := ⟨by decide +kernel⟩
theorem lf6_23 : LfP 6 23 := ⟨by decide +kernel⟩
theorem lf7_23 : LfP 7 23 := ⟨by decide +kernel⟩
theorem lf8_23 : LfP 8 23 := ⟨by decide +kernel⟩
theorem lf9_23 : LfP 9 23 := ⟨by decide +kernel⟩
theorem lf10_23 : LfP 10 23 := ⟨by decide +kernel⟩
theorem lf11_23 : LfP 11 23 := ⟨by decide +kernel⟩
theorem lf12_23 : LfP 12 23 := ⟨by decide +kernel⟩
theorem lf13_23 : LfP 13 23 := ⟨by decide +kernel⟩
theorem lf14_23 : LfP 14 23 := ⟨by decide +kernel⟩
theorem lf15_23 : LfP 15 23 := ⟨by decide +kernel⟩
end Go.Proofs.Ytghiknpnhfiloaa.Sx
