/- LowFrames: the runs for 2 and 29. -/
import Derived.Test.YtghiknpnhfiloaaLfBase
namespace Go.Proofs.Ytghiknpnhfiloaa.Sx
open Go
set_option linter.unusedVariables false
set_option linter.unusedSimpArgs false
set_option maxRecDepth 100000
theorem lf0_2 : LfP 0 2 := ⟨by decide +kernel⟩
theorem lf1_2 : LfP 1 2 := ⟨by decide +kernel⟩
theorem lf2_2 : LfP 2 2 := ⟨by decide +kernel⟩
theorem lf3_2 : LfP 3 2 := ⟨by decide +kernel⟩
theorem lf4_2 : LfP 4 2 := ⟨by decide +kernel⟩
theorem lf5_2 : LfP 5 2 := ⟨by decide +kernel⟩
theorem lf6_2 : LfP 6 2 := ⟨by decide +kernel⟩
theorem lf7_2 : LfP 7 2 := ⟨by decide +kernel⟩
theorem lf8_2 : LfP 8 2 := ⟨by decide +kernel⟩
theorem lf9_2 : LfP 9 2 := ⟨by decide +kernel⟩
theorem lf10_2 : LfP 10 2 := ⟨by decide +kernel⟩
theorem lf11_2 : LfP 11 2 := ⟨by decide +kernel⟩
theorem lf12_2 : LfP 12 2 := ⟨by decide +kernel⟩
theorem lf13_2 : LfP 13 2 := ⟨by decide +kernel⟩
theorem lf14_2 : LfP 14 2 := ⟨by decide +kernel⟩
theorem lf15_2 : LfP 15 2 := ⟨by decide +kernel⟩
theorem lf0_29 : LfP 0 29 := ⟨by decide +kernel⟩
theorem lf1_29 : LfP 1 29 := ⟨by decide +kernel⟩
theorem lf2_29 : LfP 2 29 := ⟨by decide +kernel⟩
theorem lf3_29 : LfP 3 29 := ⟨by decide +kernel⟩
theorem lf4_29 : LfP 4 29 := ⟨by decide +kernel⟩
theorem lf5_29 : LfP 5 29 := ⟨by decide +kernel⟩
theorem lf6_29 : LfP 6 29 := ⟨by decide +kernel⟩
theorem lf7_29 : LfP 7 29 := ⟨by decide +kernel⟩
theorem lf8_29 : LfP 8 29 := ⟨by decide +kernel⟩
theorem lf9_29 : LfP 9 29 := ⟨by decide +kernel⟩
theorem lf10_29 : LfP 10 29 := ⟨by decide +kernel⟩
theorem lf11_29 : LfP 11 29 := ⟨by decide +kernel⟩
theorem lf12_29 : LfP 12 29 := ⟨by decide +kernel⟩
theorem lf13_29 : LfP 13 29 := ⟨by decide +kernel⟩
theorem lf14_29 : LfP 14 29 := ⟨by decide +kernel⟩
theorem lf15_29 : LfP 15 29 := ⟨by decide +kernel⟩
end Go.Proofs.Ytghiknpnhfiloaa.Sx
