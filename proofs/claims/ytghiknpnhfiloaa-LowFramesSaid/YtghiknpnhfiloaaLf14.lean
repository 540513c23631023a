/- LowFrames: the runs for 14 and 17. -/
import Derived.Test.YtghiknpnhfiloaaLfBase
namespace Go.Proofs.Ytghiknpnhfiloaa.Sx
open Go
set_option linter.unusedVariables false
set_option linter.unusedSimpArgs false
set_option maxRecDepth 100000
theorem lf0_14 : LfP 0 14 := ⟨by decide +kernel⟩
theorem lf1_14 : LfP 1 14 := ⟨by decide +kernel⟩
theorem lf2_14 : LfP 2 14 := ⟨by decide +kernel⟩
theorem lf3_14 : LfP 3 14 := ⟨by decide +kernel⟩
theorem lf4_14 : LfP 4 14 := ⟨by decide +kernel⟩
theorem lf5_14 : LfP 5 14 := ⟨by decide +kernel⟩
theorem lf6_14 : LfP 6 14 := ⟨by decide +kernel⟩
theorem lf7_14 : LfP 7 14 := ⟨by decide +kernel⟩
theorem lf8_14 : LfP 8 14 := ⟨by decide +kernel⟩
theorem lf9_14 : LfP 9 14 := ⟨by decide +kernel⟩
theorem lf10_14 : LfP 10 14 := ⟨by decide +kernel⟩
theorem lf11_14 : LfP 11 14 := ⟨by decide +kernel⟩
theorem lf12_14 : LfP 12 14 := ⟨by decide +kernel⟩
theorem lf13_14 : LfP 13 14 := ⟨by decide +kernel⟩
theorem lf14_14 : LfP 14 14 := ⟨by decide +kernel⟩
theorem lf15_14 : LfP 15 14 := ⟨by decide +kernel⟩
theorem lf0_17 : LfP 0 17 := ⟨by decide +kernel⟩
theorem lf1_17 : LfP 1 17 := ⟨by decide +kernel⟩
theorem lf2_17 : LfP 2 17 := ⟨by decide +kernel⟩
theorem lf3_17 : LfP 3 17 := ⟨by decide +kernel⟩
theorem lf4_17 : LfP 4 17 := ⟨by decide +kernel⟩
theorem lf5_17 : LfP 5 17 := ⟨by decide +kernel⟩
theorem lf6_17 : LfP 6 17 := ⟨by decide +kernel⟩
theorem lf7_17 : LfP 7 17 := ⟨by decide +kernel⟩
theorem lf8_17 : LfP 8 17 := ⟨by decide +kernel⟩
theorem lf9_17 : LfP 9 17 := ⟨by decide +kernel⟩
theorem lf10_17 : LfP 10 17 := ⟨by decide +kernel⟩
theorem lf11_17 : LfP 11 17 := ⟨by decide +kernel⟩
theorem lf12_17 : LfP 12 17 := ⟨by decide +kernel⟩
theorem lf13_17 : LfP 13 17 := ⟨by decide +kernel⟩
theorem lf14_17 : LfP 14 17 := ⟨by decide +kernel⟩
theorem lf15_17 : LfP 15 17 := ⟨by decide +kernel⟩
end Go.Proofs.Ytghiknpnhfiloaa.Sx
