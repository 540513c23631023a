/- LowFrames: the runs for 4 and 27. -/
import Derived.Test.YtghiknpnhfiloaaLfBase
namespace Go.Proofs.Ytghiknpnhfiloaa.Sx
open Go
set_option linter.unusedVariables false
set_option linter.unusedSimpArgs false
set_option maxRecDepth 100000
theorem lf0_4 : LfP 0 4 := ⟨by decide +kernel⟩
theorem lf1_4 : LfP 1 4 := ⟨by decide +kernel⟩
theorem lf2_4 : LfP 2 4 := ⟨by decide +kernel⟩
theorem lf3_4 : LfP 3 4 := ⟨by decide +kernel⟩
theorem lf4_4 : LfP 4 4 := ⟨by decide +kernel⟩
theorem lf5_4 : LfP 5 4 := ⟨by decide +kernel⟩
theorem lf6_4 : LfP 6 4 := ⟨by decide +kernel⟩
theorem lf7_4 : LfP 7 4 := ⟨by decide +kernel⟩
theorem lf8_4 : LfP 8 4 := ⟨by decide +kernel⟩
theorem lf9_4 : LfP 9 4 := ⟨by decide +kernel⟩
theorem lf10_4 : LfP 10 4 := ⟨by decide +kernel⟩
theorem lf11_4 : LfP 11 4 := ⟨by decide +kernel⟩
theorem lf12_4 : LfP 12 4 := ⟨by decide +kernel⟩
theorem lf13_4 : LfP 13 4 := ⟨by decide +kernel⟩
theorem lf14_4 : LfP 14 4 := ⟨by decide +kernel⟩
theorem lf15_4 : LfP 15 4 := ⟨by decide +kernel⟩
theorem lf0_27 : LfP 0 27 := ⟨by decide +kernel⟩
theorem lf1_27 : LfP 1 27 := ⟨by decide +kernel⟩
theorem lf2_27 : LfP 2 27 := ⟨by decide +kernel⟩
theorem lf3_27 : LfP 3 27 := ⟨by decide +kernel⟩
theorem lf4_27 : LfP 4 27 := ⟨by decide +kernel⟩
theorem lf5_27 : LfP 5 27 := ⟨by decide +kernel⟩
theorem lf6_27 : LfP 6 27 := ⟨by decide +kernel⟩
theorem lf7_27 : LfP 7 27 := ⟨by decide +kernel⟩
theorem lf8_27 : LfP 8 27 := ⟨by decide +kernel⟩
theorem lf9_27 : LfP 9 27 := ⟨by decide +kernel⟩
theorem lf10_27 : LfP 10 27 := ⟨by decide +kernel⟩
theorem lf11_27 : LfP 11 27 := ⟨by decide +kernel⟩
theorem lf12_27 : LfP 12 27 := ⟨by decide +kernel⟩
theorem lf13_27 : LfP 13 27 := ⟨by decide +kernel⟩
theorem lf14_27 : LfP 14 27 := ⟨by decide +kernel⟩
theorem lf15_27 : LfP 15 27 := ⟨by decide +kernel⟩
end Go.Proofs.Ytghiknpnhfiloaa.Sx
