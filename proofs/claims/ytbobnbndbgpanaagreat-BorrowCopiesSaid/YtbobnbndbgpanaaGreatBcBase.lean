/- BorrowCopies: its runs, and what is to be shown of each. -/
import Derived.Test.YtbobnbndbgpanaaGreatPuBase
import Derived.Test.YtbobnbndbgpanaaGreatMpT
namespace Go.Proofs.YtbobnbndbgpanaaGreat.Sx
open Go Go.RowKit
set_option linter.unusedVariables false
set_option linter.unusedSimpArgs false
set_option maxRecDepth 100000
noncomputable section
def bcSum : Summary := rdSum (flSum puSum)
theorem bcSum_ok (η : Env) : SumOk η Tryz.prog bcSum := rdSum_ok (flSum_ok (puSum_ok η))
def BcE : E := .rem (.add (.rem (.var 0) (.lit 4)) (.lit 4)) (.lit 4)
def BcF (k m : Nat) : List (B × Bool) := [(.cmp .eql BcE (.lit k), true), (.cmp .eql (.bits .and .i64 (.var 1) (.lit 7)) (.lit m), true)]
/-- The call, where the first number is k modulo four, and the second one's lowest bits are m. -/
def BcT (k m : Nat) : T V := callTopF Tryz.prog bcSum (List.range 175) 30000 5 [.int .i64 (.var 0), .int .i64 (.var 1)] (BcF k m)
theorem bc_eq (k m : Nat) : BcT k m = callTop Tryz.prog bcSum 30000 5 [.int .i64 (.var 0), .int .i64 (.var 1)] (BcF k m) := callTopF_eq pu_plans 30000 5 _ _
/-- The run comes to true. -/
abbrev BcP (k : Nat) (m : Nat) : Prop := IsTrue (BcT k m)
end
end Go.Proofs.YtbobnbndbgpanaaGreat.Sx
