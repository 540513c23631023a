/- The document's Encode, name by name (0). -/
import Derived.Test.YtloihfdiabbcpaaProg
import Derived.Test.YtloihfdiabbcpaaSxSum
import Derived.Test.YtloihfdiabbcpaaInRD
namespace Go.Proofs.Ytloihfdiabbcpaa.Sx
open Go Go.RowKit
set_option linter.unusedVariables false
set_option linter.unusedSimpArgs false
set_option maxRecDepth 100000
def reT (k f : Nat) : T V := .node (.fn5 50 (.lit f) (.var 0) (.var 1) (.var 2) (.var 3)) (.ret (.tuple [.int .i64 (.fn5 60 (.lit k) (.var 0) (.var 1) (.var 2) (.var 3)), .bool (.lit true)])) (.ret (.tuple [.int .i64 (.lit 0), .bool (.lit false)]))
theorem re0_eq : callTop Try.prog sumT 300 13 [.agg [.str (.lit [108, 117, 105]), .int .i64 (.var 0), .int .i64 (.var 1), .int .i64 (.var 2), .int .i64 (.var 3)]] [] = reT 0 0 := by kernel_rfl
theorem re1_eq : callTop Try.prog sumT 300 13 [.agg [.str (.lit [97, 117, 105, 112, 99]), .int .i64 (.var 0), .int .i64 (.var 1), .int .i64 (.var 2), .int .i64 (.var 3)]] [] = reT 1 0 := by kernel_rfl
theorem re2_eq : callTop Try.prog sumT 300 13 [.agg [.str (.lit [106, 97, 108]), .int .i64 (.var 0), .int .i64 (.var 1), .int .i64 (.var 2), .int .i64 (.var 3)]] [] = reT 2 1 := by kernel_rfl
theorem re3_eq : callTop Try.prog sumT 300 13 [.agg [.str (.lit [106, 97, 108, 114]), .int .i64 (.var 0), .int .i64 (.var 1), .int .i64 (.var 2), .int .i64 (.var 3)]] [] = reT 3 2 := by kernel_rfl
theorem re4_eq : callTop Try.prog sumT 300 13 [.agg [.str (.lit [108, 98]), .int .i64 (.var 0), .int .i64 (.var 1), .int .i64 (.var 2), .int .i64 (.var 3)]] [] = reT 4 2 := by kernel_rfl
theorem re5_eq : callTop Try.prog sumT 300 13 [.agg [.str (.lit [108, 104]), .int .i64 (.var 0), .int .i64 (.var 1), .int .i64 (.var 2), .int .i64 (.var 3)]] [] = reT 5 2 := by kernel_rfl
theorem re6_eq : callTop Try.prog sumT 300 13 [.agg [.str (.lit [108, 119]), .int .i64 (.var 0), .int .i64 (.var 1), .int .i64 (.var 2), .int .i64 (.var 3)]] [] = reT 6 2 := by kernel_rfl
theorem re7_eq : callTop Try.prog sumT 300 13 [.agg [.str (.lit [108, 98, 117]), .int .i64 (.var 0), .int .i64 (.var 1), .int .i64 (.var 2), .int .i64 (.var 3)]] [] = reT 7 2 := by kernel_rfl
theorem re8_eq : callTop Try.prog sumT 300 13 [.agg [.str (.lit [108, 104, 117]), .int .i64 (.var 0), .int .i64 (.var 1), .int .i64 (.var 2), .int .i64 (.var 3)]] [] = reT 8 2 := by kernel_rfl
theorem re9_eq : callTop Try.prog sumT 300 13 [.agg [.str (.lit [97, 100, 100, 105]), .int .i64 (.var 0), .int .i64 (.var 1), .int .i64 (.var 2), .int .i64 (.var 3)]] [] = reT 9 2 := by kernel_rfl
theorem re10_eq : callTop Try.prog sumT 300 13 [.agg [.str (.lit [115, 108, 116, 105]), .int .i64 (.var 0), .int .i64 (.var 1), .int .i64 (.var 2), .int .i64 (.var 3)]] [] = reT 10 2 := by kernel_rfl
theorem re11_eq : callTop Try.prog sumT 300 13 [.agg [.str (.lit [115, 108, 116, 105, 117]), .int .i64 (.var 0), .int .i64 (.var 1), .int .i64 (.var 2), .int .i64 (.var 3)]] [] = reT 11 2 := by kernel_rfl
end Go.Proofs.Ytloihfdiabbcpaa.Sx
