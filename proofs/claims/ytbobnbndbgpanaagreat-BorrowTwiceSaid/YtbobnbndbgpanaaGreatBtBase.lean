/- BorrowTwice: its runs, and what is to be shown of each. -/
import Derived.Test.YtbobnbndbgpanaaGreatPuBase
namespace Go.Proofs.YtbobnbndbgpanaaGreat.Sx
open Go Go.RowKit
set_option linter.unusedVariables false
set_option linter.unusedSimpArgs false
set_option maxRecDepth 100000
noncomputable section
def BtF (k m : Nat) : List (B × Bool) := [(.cmp .eql (.bits .and .i64 (.var 0) (.lit 3)) (.lit k), true), (.cmp .eql (.bits .and .i64 (.var 1) (.lit 3)) (.lit m), true)]
/-- The call, where the numbers' lowest bits are k and m. -/
def BtT (k m : Nat) : T V := callTopF Tryz.prog puSum (List.range 175) 30000 3 [.int .i64 (.var 0), .int .i64 (.var 1)] (BtF k m)
theorem bt_eq (k m : Nat) : BtT k m = callTop Tryz.prog puSum 30000 3 [.int .i64 (.var 0), .int .i64 (.var 1)] (BtF k m) := callTopF_eq pu_plans 30000 3 _ _
/-- The run comes to true. -/
abbrev BtP (k : Nat) (m : Nat) : Prop := IsTrue (BtT k m)
end
end Go.Proofs.YtbobnbndbgpanaaGreat.Sx
