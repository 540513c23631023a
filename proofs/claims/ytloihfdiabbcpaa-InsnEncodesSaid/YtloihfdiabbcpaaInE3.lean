/- The document's Encode, name by name (3). -/
import Derived.Test.YtloihfdiabbcpaaProg
import Derived.Test.YtloihfdiabbcpaaSxSum
import Derived.Test.YtloihfdiabbcpaaInE0
namespace Go.Proofs.Ytloihfdiabbcpaa.Sx
open Go Go.RowKit
set_option linter.unusedVariables false
set_option linter.unusedSimpArgs false
set_option maxRecDepth 100000
theorem re36_eq : callTop Try.prog sumT 300 13 [.agg [.str (.lit [115, 114, 97]), .int .i64 (.var 0), .int .i64 (.var 1), .int .i64 (.var 2), .int .i64 (.var 3)]] [] = reT 36 6 := by kernel_rfl
theorem re37_eq : callTop Try.prog sumT 300 13 [.agg [.str (.lit [109, 117, 108]), .int .i64 (.var 0), .int .i64 (.var 1), .int .i64 (.var 2), .int .i64 (.var 3)]] [] = reT 37 6 := by kernel_rfl
theorem re38_eq : callTop Try.prog sumT 300 13 [.agg [.str (.lit [109, 117, 108, 104]), .int .i64 (.var 0), .int .i64 (.var 1), .int .i64 (.var 2), .int .i64 (.var 3)]] [] = reT 38 6 := by kernel_rfl
theorem re39_eq : callTop Try.prog sumT 300 13 [.agg [.str (.lit [109, 117, 108, 104, 115, 117]), .int .i64 (.var 0), .int .i64 (.var 1), .int .i64 (.var 2), .int .i64 (.var 3)]] [] = reT 39 6 := by kernel_rfl
theorem re40_eq : callTop Try.prog sumT 300 13 [.agg [.str (.lit [109, 117, 108, 104, 117]), .int .i64 (.var 0), .int .i64 (.var 1), .int .i64 (.var 2), .int .i64 (.var 3)]] [] = reT 40 6 := by kernel_rfl
theorem re41_eq : callTop Try.prog sumT 300 13 [.agg [.str (.lit [100, 105, 118]), .int .i64 (.var 0), .int .i64 (.var 1), .int .i64 (.var 2), .int .i64 (.var 3)]] [] = reT 41 6 := by kernel_rfl
theorem re42_eq : callTop Try.prog sumT 300 13 [.agg [.str (.lit [100, 105, 118, 117]), .int .i64 (.var 0), .int .i64 (.var 1), .int .i64 (.var 2), .int .i64 (.var 3)]] [] = reT 42 6 := by kernel_rfl
theorem re43_eq : callTop Try.prog sumT 300 13 [.agg [.str (.lit [114, 101, 109]), .int .i64 (.var 0), .int .i64 (.var 1), .int .i64 (.var 2), .int .i64 (.var 3)]] [] = reT 43 6 := by kernel_rfl
theorem re44_eq : callTop Try.prog sumT 300 13 [.agg [.str (.lit [114, 101, 109, 117]), .int .i64 (.var 0), .int .i64 (.var 1), .int .i64 (.var 2), .int .i64 (.var 3)]] [] = reT 44 6 := by kernel_rfl
theorem re45_eq : callTop Try.prog sumT 300 13 [.agg [.str (.lit [101, 99, 97, 108, 108]), .int .i64 (.var 0), .int .i64 (.var 1), .int .i64 (.var 2), .int .i64 (.var 3)]] [] = reT 45 7 := by kernel_rfl
theorem re46_eq : callTop Try.prog sumT 300 13 [.agg [.str (.lit [101, 98, 114, 101, 97, 107]), .int .i64 (.var 0), .int .i64 (.var 1), .int .i64 (.var 2), .int .i64 (.var 3)]] [] = reT 46 7 := by kernel_rfl
def noneF : List (B × Bool) := rowsL.map fun r => (.seq (.lit r.name) (.var 0), false)
theorem reN_eq : callTop Try.prog sumT 300 13 [.agg [.str (.var 0), .int .i64 (.var 0), .int .i64 (.var 1), .int .i64 (.var 2), .int .i64 (.var 3)]] noneF = .ret (.tuple [.int .i64 (.lit 0), .bool (.lit false)]) := by kernel_rfl
end Go.Proofs.Ytloihfdiabbcpaa.Sx
