/- The document's Encode, name by name (1). -/
import Derived.Test.YtloihfdiabbcpaaProg
import Derived.Test.YtloihfdiabbcpaaSxSum
import Derived.Test.YtloihfdiabbcpaaInE0
namespace Go.Proofs.Ytloihfdiabbcpaa.Sx
open Go Go.RowKit
set_option linter.unusedVariables false
set_option linter.unusedSimpArgs false
set_option maxRecDepth 100000
theorem re12_eq : callTop Try.prog sumT 300 13 [.agg [.str (.lit [120, 111, 114, 105]), .int .i64 (.var 0), .int .i64 (.var 1), .int .i64 (.var 2), .int .i64 (.var 3)]] [] = reT 12 2 := by kernel_rfl
theorem re13_eq : callTop Try.prog sumT 300 13 [.agg [.str (.lit [111, 114, 105]), .int .i64 (.var 0), .int .i64 (.var 1), .int .i64 (.var 2), .int .i64 (.var 3)]] [] = reT 13 2 := by kernel_rfl
theorem re14_eq : callTop Try.prog sumT 300 13 [.agg [.str (.lit [97, 110, 100, 105]), .int .i64 (.var 0), .int .i64 (.var 1), .int .i64 (.var 2), .int .i64 (.var 3)]] [] = reT 14 2 := by kernel_rfl
theorem re15_eq : callTop Try.prog sumT 300 13 [.agg [.str (.lit [115, 108, 108, 105]), .int .i64 (.var 0), .int .i64 (.var 1), .int .i64 (.var 2), .int .i64 (.var 3)]] [] = reT 15 3 := by kernel_rfl
theorem re16_eq : callTop Try.prog sumT 300 13 [.agg [.str (.lit [115, 114, 108, 105]), .int .i64 (.var 0), .int .i64 (.var 1), .int .i64 (.var 2), .int .i64 (.var 3)]] [] = reT 16 3 := by kernel_rfl
theorem re17_eq : callTop Try.prog sumT 300 13 [.agg [.str (.lit [115, 114, 97, 105]), .int .i64 (.var 0), .int .i64 (.var 1), .int .i64 (.var 2), .int .i64 (.var 3)]] [] = reT 17 3 := by kernel_rfl
theorem re18_eq : callTop Try.prog sumT 300 13 [.agg [.str (.lit [98, 101, 113]), .int .i64 (.var 0), .int .i64 (.var 1), .int .i64 (.var 2), .int .i64 (.var 3)]] [] = reT 18 4 := by kernel_rfl
theorem re19_eq : callTop Try.prog sumT 300 13 [.agg [.str (.lit [98, 110, 101]), .int .i64 (.var 0), .int .i64 (.var 1), .int .i64 (.var 2), .int .i64 (.var 3)]] [] = reT 19 4 := by kernel_rfl
theorem re20_eq : callTop Try.prog sumT 300 13 [.agg [.str (.lit [98, 108, 116]), .int .i64 (.var 0), .int .i64 (.var 1), .int .i64 (.var 2), .int .i64 (.var 3)]] [] = reT 20 4 := by kernel_rfl
theorem re21_eq : callTop Try.prog sumT 300 13 [.agg [.str (.lit [98, 103, 101]), .int .i64 (.var 0), .int .i64 (.var 1), .int .i64 (.var 2), .int .i64 (.var 3)]] [] = reT 21 4 := by kernel_rfl
theorem re22_eq : callTop Try.prog sumT 300 13 [.agg [.str (.lit [98, 108, 116, 117]), .int .i64 (.var 0), .int .i64 (.var 1), .int .i64 (.var 2), .int .i64 (.var 3)]] [] = reT 22 4 := by kernel_rfl
theorem re23_eq : callTop Try.prog sumT 300 13 [.agg [.str (.lit [98, 103, 101, 117]), .int .i64 (.var 0), .int .i64 (.var 1), .int .i64 (.var 2), .int .i64 (.var 3)]] [] = reT 23 4 := by kernel_rfl
end Go.Proofs.Ytloihfdiabbcpaa.Sx
