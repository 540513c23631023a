/- LowFrames: the runs for 7 and 24. -/
import Derived.Test.YtghiknpnhfiloaaLfBase
namespace Go.Proofs.Ytghiknpnhfiloaa.Sx
open Go
set_option linter.unusedVariables false
set_option linter.unusedSimpArgs false
set_option maxRecDepth 100000
theorem lf0_7 : LfP 0 7 := ⟨by decide +kernel⟩
theorem lf1_7 : LfP 1 7 := ⟨by decide +kernel⟩
theorem lf2_7 : LfP 2 7 := ⟨by decide +kernel⟩
theorem lf3_7 : LfP 3 7 := ⟨by decide +kernel⟩
theorem lf4_7 : LfP 4 7 := ⟨by decide +kernel⟩
theorem lf5_7 : LfP 5 7 := ⟨by decide +kernel⟩
theorem lf6_7 : LfP 6 7 := ⟨by decide +kernel⟩
theorem lf7_7 : LfP 7 7 := ⟨by decide +kernel⟩
theorem lf8_7 : LfP 8 7 := ⟨by decide +kernel⟩
theorem lf9_7 : LfP 9 7 := ⟨by decide +kernel⟩
theorem lf10_7 : LfP 10 7 := ⟨by decide +kernel⟩
theorem lf11_7 : LfP 11 7 := ⟨by decide +kernel⟩
theorem lf12_7 : LfP 12 7 := ⟨by decide +kernel⟩
theorem lf13_7 : LfP 13 7 := ⟨by decide +kernel⟩
theorem lf14_7 : LfP 14 7 := ⟨by decide +kernel⟩
theorem lf15_7 : LfP 15 7 := ⟨by decide +kernel⟩
theorem lf0_24 : LfP 0 24 := ⟨by decide +kernel⟩
theorem lf1_24 : LfP 1 24 := ⟨by decide +kernel⟩
theorem lf2_24 : LfP 2 24 := ⟨by decide +kernel⟩
theorem lf3_24 : LfP 3 24 := ⟨by decide +kernel⟩
theorem lf4_24 : LfP 4 24 := ⟨by decide +kernel⟩
theorem lf5_24 : LfP 5 24 := ⟨by decide +kernel⟩
theorem lf6_24 : LfP 6 24 := ⟨by decide +kernel⟩
theorem lf7_24 : LfP 7 24 := ⟨by decide +kernel⟩
theorem lf8_24 : LfP 8 24 := ⟨by decide +kernel⟩
theorem lf9_24 : LfP 9 24 := ⟨by decide +kernel⟩
theorem lf10_24 : LfP 10 24 := ⟨by decide +kernel⟩
theorem lf11_24 : LfP 11 24 := ⟨by decide +kernel⟩
theorem lf12_24 : LfP 12 24 := ⟨by decide +kernel⟩
theorem lf13_24 : LfP 13 24 := ⟨by decide +kernel⟩
theorem lf14_24 : LfP 14 24 := ⟨by decide +kernel⟩
theorem lf15_24 : LfP 15 24 := ⟨by decide +kernel⟩
end Go.Proofs.Ytghiknpnhfiloaa.Sx
