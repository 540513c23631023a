/- LowFrames: the runs for 5 and 26. -/
import Derived.Test.YtghiknpnhfiloaaLfBase
namespace Go.Proofs.Ytghiknpnhfiloaa.Sx
open Go
set_option linter.unusedVariables false
set_option linter.unusedSimpArgs false
set_option maxRecDepth 100000
theorem lf0_5 : LfP 0 5 := ⟨by decide +kernel⟩
theorem lf1_5 : LfP 1 5 := ⟨by decide +kernel⟩
theorem lf2_5 : LfP 2 5 := ⟨by decide +kernel⟩
theorem lf3_5 : LfP 3 5 := ⟨by decide +kernel⟩
theorem lf4_5 : LfP 4 5 := ⟨by decide +kernel⟩
theorem lf5_5 : LfP 5 5 := ⟨by decide +kernel⟩
theorem lf6_5 : LfP 6 5 := ⟨by decide +kernel⟩
theorem lf7_5 : LfP 7 5 := ⟨by decide +kernel⟩
theorem lf8_5 : LfP 8 5 := ⟨by decide +kernel⟩
theorem lf9_5 : LfP 9 5 := ⟨by decide +kernel⟩
theorem lf10_5 : LfP 10 5 := ⟨by decide +kernel⟩
theorem lf11_5 : LfP 11 5 := ⟨by decide +kernel⟩
theorem lf12_5 : LfP 12 5 := ⟨by decide +kernel⟩
theorem lf13_5 : LfP 13 5 := ⟨by decide +kernel⟩
theorem lf14_5 : LfP 14 5 := ⟨by decide +kernel⟩
theorem lf15_5 : LfP 15 5 := ⟨by decide +kernel⟩
theorem lf0_26 : LfP 0 26 := ⟨by decide +kernel⟩
theorem lf1_26 : LfP 1 26 := ⟨by decide +kernel⟩
theorem lf2_26 : LfP 2 26 := ⟨by decide +kernel⟩
theorem lf3_26 : LfP 3 26 := ⟨by decide +kernel⟩
theorem lf4_26 : LfP 4 26 := ⟨by decide +kernel⟩
theorem lf5_26 : LfP 5 26 := ⟨by decide +kernel⟩
theorem lf6_26 : LfP 6 26 := ⟨by decide +kernel⟩
theorem lf7_26 : LfP 7 26 := ⟨by decide +kernel⟩
theorem lf8_26 : LfP 8 26 := ⟨by decide +kernel⟩
theorem lf9_26 : LfP 9 26 := ⟨by decide +kernel⟩
theorem lf10_26 : LfP 10 26 := ⟨by decide +kernel⟩
theorem lf11_26 : LfP 11 26 := ⟨by decide +kernel⟩
theorem lf12_26 : LfP 12 26 := ⟨by decide +kernel⟩
theorem lf13_26 : LfP 13 26 := ⟨by decide +kernel⟩
theorem lf14_26 : LfP 14 26 := ⟨by decide +kernel⟩
theorem lf15_26 : LfP 15 26 := ⟨by decide +kernel⟩
end Go.Proofs.Ytghiknpnhfiloaa.Sx
