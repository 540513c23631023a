/- BorrowApart: its runs, and what is to be shown of each. -/
import Derived.Test.YtbobnbndbgpanaaGreatPuBase
namespace Go.Proofs.YtbobnbndbgpanaaGreat.Sx
open Go Go.RowKit
set_option linter.unusedVariables false
set_option linter.unusedSimpArgs false
set_option maxRecDepth 100000
noncomputable section
def BaF (k m : Nat) (s : Bool) : List (B × Bool) := [(.cmp .eql (.bits .and .i64 (.var 0) (.lit 7)) (.lit k), true), (.cmp .eql (.bits .and .i64 (.var 1) (.lit 7)) (.lit m), true), (.var 0, s)]
/-- The call, where the numbers' lowest bits are k and m, and the truth value is s. -/
def BaT (k m : Nat) (s : Bool) : T V := callTopF Tryz.prog puSum (List.range 175) 30000 4 [.int .i64 (.var 0), .int .i64 (.var 1), .bool (.var 0)] (BaF k m s)
theorem ba_eq (k m : Nat) (s : Bool) : BaT k m s = callTop Tryz.prog puSum 30000 4 [.int .i64 (.var 0), .int .i64 (.var 1), .bool (.var 0)] (BaF k m s) := callTopF_eq pu_plans 30000 4 _ _
/-- The run comes to true. -/
abbrev BaP (k : Nat) (m : Nat) (s : Bool) : Prop := IsTrue (BaT k m s)
end
end Go.Proofs.YtbobnbndbgpanaaGreat.Sx
