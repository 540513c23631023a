/- The document's Encode, name by name (2). -/
import Derived.Test.YtloihfdiabbcpaaProg
import Derived.Test.YtloihfdiabbcpaaSxSum
import Derived.Test.YtloihfdiabbcpaaInE0
namespace Go.Proofs.Ytloihfdiabbcpaa.Sx
open Go Go.RowKit
set_option linter.unusedVariables false
set_option linter.unusedSimpArgs false
set_option maxRecDepth 100000
theorem re24_eq : callTop Try.prog sumT 300 13 [.agg [.str (.lit [115, 98]), .int .i64 (.var 0), .int .i64 (.var 1), .int .i64 (.var 2), .int .i64 (.var 3)]] [] = reT 24 5 := by kernel_rfl
theorem re25_eq : callTop Try.prog sumT 300 13 [.agg [.str (.lit [115, 104]), .int .i64 (.var 0), .int .i64 (.var 1), .int .i64 (.var 2), .int .i64 (.var 3)]] [] = reT 25 5 := by kernel_rfl
theorem re26_eq : callTop Try.prog sumT 300 13 [.agg [.str (.lit [115, 119]), .int .i64 (.var 0), .int .i64 (.var 1), .int .i64 (.var 2), .int .i64 (.var 3)]] [] = reT 26 5 := by kernel_rfl
theorem re27_eq : callTop Try.prog sumT 300 13 [.agg [.str (.lit [97, 100, 100]), .int .i64 (.var 0), .int .i64 (.var 1), .int .i64 (.var 2), .int .i64 (.var 3)]] [] = reT 27 6 := by kernel_rfl
theorem re28_eq : callTop Try.prog sumT 300 13 [.agg [.str (.lit [115, 108, 108]), .int .i64 (.var 0), .int .i64 (.var 1), .int .i64 (.var 2), .int .i64 (.var 3)]] [] = reT 28 6 := by kernel_rfl
theorem re29_eq : callTop Try.prog sumT 300 13 [.agg [.str (.lit [115, 108, 116]), .int .i64 (.var 0), .int .i64 (.var 1), .int .i64 (.var 2), .int .i64 (.var 3)]] [] = reT 29 6 := by kernel_rfl
theorem re30_eq : callTop Try.prog sumT 300 13 [.agg [.str (.lit [115, 108, 116, 117]), .int .i64 (.var 0), .int .i64 (.var 1), .int .i64 (.var 2), .int .i64 (.var 3)]] [] = reT 30 6 := by kernel_rfl
theorem re31_eq : callTop Try.prog sumT 300 13 [.agg [.str (.lit [120, 111, 114]), .int .i64 (.var 0), .int .i64 (.var 1), .int .i64 (.var 2), .int .i64 (.var 3)]] [] = reT 31 6 := by kernel_rfl
theorem re32_eq : callTop Try.prog sumT 300 13 [.agg [.str (.lit [115, 114, 108]), .int .i64 (.var 0), .int .i64 (.var 1), .int .i64 (.var 2), .int .i64 (.var 3)]] [] = reT 32 6 := by kernel_rfl
theorem re33_eq : callTop Try.prog sumT 300 13 [.agg [.str (.lit [111, 114]), .int .i64 (.var 0), .int .i64 (.var 1), .int .i64 (.var 2), .int .i64 (.var 3)]] [] = reT 33 6 := by kernel_rfl
theorem re34_eq : callTop Try.prog sumT 300 13 [.agg [.str (.lit [97, 110, 100]), .int .i64 (.var 0), .int .i64 (.var 1), .int .i64 (.var 2), .int .i64 (.var 3)]] [] = reT 34 6 := by kernel_rfl
theorem re35_eq : callTop Try.prog sumT 300 13 [.agg [.str (.lit [115, 117, 98]), .int .i64 (.var 0), .int .i64 (.var 1), .int .i64 (.var 2), .int .i64 (.var 3)]] [] = reT 35 6 := by kernel_rfl
end Go.Proofs.Ytloihfdiabbcpaa.Sx
