/- LowFrames: the runs for 0 and 31. -/
import Derived.Test.YtghiknpnhfiloaaLfBase
namespace Go.Proofs.Ytghiknpnhfiloaa.Sx
open Go
set_option linter.unusedVariables false
set_option linter.unusedSimpArgs false
set_option maxRecDepth 100000
theorem lf0_0 : LfP 0 0 := ⟨by decide +kernel⟩
theorem lf1_0 : LfP 1 0 := ⟨by decide +kernel⟩
theorem lf2_0 : LfP 2 0 := ⟨by decide +kernel⟩
theorem lf3_0 : LfP 3 0 := ⟨by decide +kernel⟩
theorem lf4_0 : LfP 4 0 := ⟨by decide +kernel⟩
theorem lf5_0 : LfP 5 0 := ⟨by decide +kernel⟩
theorem lf6_0 : LfP 6 0 := ⟨by decide +kernel⟩
theorem lf7_0 : LfP 7 0 := ⟨by decide +kernel⟩
theorem lf8_0 : LfP 8 0 := ⟨by decide +kernel⟩
theorem lf9_0 : LfP 9 0 := ⟨by decide +kernel⟩
theorem lf10_0 : LfP 10 0 := ⟨by decide +kernel⟩
theorem lf11_0 : LfP 11 0 := ⟨by decide +kernel⟩
theorem lf12_0 : LfP 12 0 := ⟨by decide +kernel⟩
theorem lf13_0 : LfP 13 0 := ⟨by decide +kernel⟩
theorem lf14_0 : LfP 14 0 := ⟨by decide +kernel⟩
theorem lf15_0 : LfP 15 0 := ⟨by decide +kernel⟩
theorem lf0_31 : LfP 0 31 := ⟨by decide +kernel⟩
theorem lf1_31 : LfP 1 31 := ⟨by decide +kernel⟩
theorem lf2_31 : LfP 2 31 := ⟨by decide +kernel⟩
theorem lf3_31 : LfP 3 31 := ⟨by decide +kernel⟩
theorem lf4_31 : LfP 4 31 := ⟨by decide +kernel⟩
theorem lf5_31 : LfP 5 31 := ⟨by decide +kernel⟩
theorem lf6_31 : LfP 6 31 := ⟨by decide +kernel⟩
theorem lf7_31 : LfP 7 31 := ⟨by decide +kernel⟩
theorem lf8_31 : LfP 8 31 := ⟨by decide +kernel⟩
theorem lf9_31 : LfP 9 31 := ⟨by decide +kernel⟩
theorem lf10_31 : LfP 10 31 := ⟨by decide +kernel⟩
theorem lf11_31 : LfP 11 31 := ⟨by decide +kernel⟩
theorem lf12_31 : LfP 12 31 := ⟨by decide +kernel⟩
theorem lf13_31 : LfP 13 31 := ⟨by decide +kernel⟩
theorem lf14_31 : LfP 14 31 := ⟨by decide +kernel⟩
theorem lf15_31 : LfP 15 31 := ⟨by decide +kernel⟩
end Go.Proofs.Ytghiknpnhfiloaa.Sx
