/- BorrowParts: its runs, and what is to be shown of each. -/
import Derived.Test.YtbobnbndbgpanaaGreatPuBase
namespace Go.Proofs.YtbobnbndbgpanaaGreat.Sx
open Go Go.RowKit
set_option linter.unusedVariables false
set_option linter.unusedSimpArgs false
set_option maxRecDepth 100000
noncomputable section
def BpE : E := .rem (.add (.rem (.var 0) (.lit 8)) (.lit 8)) (.lit 8)
def BpF (k : Nat) : List (B × Bool) := [(.cmp .eql BpE (.lit k), true)]
/-- The call, where the number is k modulo eight. -/
def BpT (k : Nat) : T V := callTopF Tryz.prog puSum (List.range 175) 30000 6 [.int .i64 (.var 0)] (BpF k)
theorem bp_eq (k : Nat) : BpT k = callTop Tryz.prog puSum 30000 6 [.int .i64 (.var 0)] (BpF k) := callTopF_eq pu_plans 30000 6 _ _
/-- The run comes to true. -/
abbrev BpP (k : Nat) : Prop := IsTrue (BpT k)
end
end Go.Proofs.YtbobnbndbgpanaaGreat.Sx
