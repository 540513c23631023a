/- AsmEdge: its runs, and what is to be shown of each; what asm.turns tells. -/
import Derived.Test.YthemmbebpkbmbaaProg
import Derived.Test.YthemmbebpkbmbaaSzAll
namespace Go.Proofs.Ythemmbebpkbmbaa.Sx
open Go Go.RowKit
set_option linter.unusedVariables false
set_option linter.unusedSimpArgs false
set_option maxRecDepth 100000
noncomputable section
def turnsM : List (List UInt8 × List UInt8) := [([98, 101, 113], [98, 110, 101]), ([98, 108, 116], [98, 103, 101]), ([98, 108, 116, 117], [98, 103, 101, 117]), ([98, 110, 101], [98, 101, 113]), ([98, 103, 101], [98, 108, 116]), ([98, 103, 101, 117], [98, 108, 116, 117])]
theorem turns_ok : okMap Try.prog 200 200 22 turnsM = true := by decide +kernel
def aeSum : Summary := noSum.putMap 22 turnsM
theorem aeSum_ok (η : Env) : SumOk η Try.prog aeSum := SumOk.map (plain_of (by kernel_rfl)) (by kernel_rfl) (noSum_ok _ _) turns_ok
theorem ae_plans : okFns Try.prog (List.range 52) = true := by decide +kernel
def AeF (k : Nat) (s : Bool) : List (B × Bool) := [(.cmp .eql (.bits .and .i64 (.var 0) (.lit 63)) (.lit k), true), (.var 0, s)]
/-- The call, where the number's lowest bits are k, and the truth value is s. -/
def AeT (k : Nat) (s : Bool) : T V := callTopF Try.prog aeSum (List.range 52) 30000 3 [.int .i64 (.var 0), .bool (.var 0)] (AeF k s)
theorem ae_eq (k : Nat) (s : Bool) : AeT k s = callTop Try.prog aeSum 30000 3 [.int .i64 (.var 0), .bool (.var 0)] (AeF k s) := callTopF_eq ae_plans 30000 3 _ _
/-- The run comes to true. -/
abbrev AeP (k : Nat) (s : Bool) : Prop := IsTrue (AeT k s)
end
end Go.Proofs.Ythemmbebpkbmbaa.Sx
