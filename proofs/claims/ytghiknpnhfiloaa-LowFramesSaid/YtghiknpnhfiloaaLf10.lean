/- LowFrames: the runs for 10 and 21. -/
import Derived.Test.YtghiknpnhfiloaaLfBase
namespace Go.Proofs.Ytghiknpnhfiloaa.Sx
open Go
set_option linter.unusedVariables false
set_option linter.unusedSimpArgs false
set_option maxRecDepth 100000
theorem lf0_10 : LfP 0 10 := ⟨by decide +kernel⟩
theorem lf1_10 : LfP 1 10 := ⟨by decide +kernel⟩
theorem lf2_10 : LfP 2 10 := ⟨by decide +kernel⟩
theorem lf3_10 : LfP 3 10 := ⟨by decide +kernel⟩
theorem lf4_10 : LfP 4 10 := ⟨by decide +kernel⟩
theorem lf5_10 : LfP 5 10 := ⟨by decide +kernel⟩
theorem lf6_10 : LfP 6 10 := ⟨by decide +kernel⟩
theorem lf7_10 : LfP 7 10 := ⟨by decide +kernel⟩
theorem lf8_10 : LfP 8 10 := ⟨by decide +kernel⟩
theorem lf9_10 : LfP 9 10 := ⟨by decide +kernel⟩
theorem lf10_10 : LfP 10 10 := ⟨by decide +kernel⟩
theorem lf11_10 : LfP 11 10 := ⟨by decide +kernel⟩
theorem lf12_10 : LfP 12 10 := ⟨by decide +kernel⟩
theorem lf13_10 : LfP 13 10 := ⟨by decide +kernel⟩
theorem lf14_10 : LfP 14 10 := ⟨by decide +kernel⟩
theorem lf15_10 : LfP 15 10 := ⟨by decide +kernel⟩
theorem lf0_21 : LfP 0 21 := ⟨by decide +kernel⟩
theorem lf1_21 : LfP 1 21 := ⟨by decide +kernel⟩
theorem lf2_21 : LfP 2 21 := ⟨by decide +kernel⟩
theorem lf3_21 : LfP 3 21 := ⟨by decide +kernel⟩
theorem lf4_21 : LfP 4 21 := ⟨by decide +kernel⟩
theorem lf5_21 : LfP 5 21 := ⟨by decide +kernel⟩
theorem lf6_21 : LfP 6 21 := ⟨by decide +kernel⟩
theorem lf7_21 : LfP 7 21 := ⟨by decide +kernel⟩
theorem lf8_21 : LfP 8 21 := ⟨by decide +kernel⟩
theorem lf9_21 : LfP 9 21 := ⟨by decide +kernel⟩
theorem lf10_21 : LfP 10 21 := ⟨by decide +kernel⟩
theorem lf11_21 : LfP 11 21 := ⟨by decide +kernel⟩
theorem lf12_21 : LfP 12 21 := ⟨by decide +kernel⟩
theorem lf13_21 : LfP 13 21 := ⟨by decide +kernel⟩
theorem lf14_21 : LfP 14 21 := ⟨by decide +kernel⟩
theorem lf15_21 : LfP 15 21 := ⟨by decide +kernel⟩
end Go.Proofs.Ytghiknpnhfiloaa.Sx
