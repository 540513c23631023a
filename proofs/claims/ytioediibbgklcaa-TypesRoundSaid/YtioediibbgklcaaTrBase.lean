/- TypesRound: its runs, and what is to be shown of each. -/
import Derived.Test.YtioediibbgklcaaProg
import Derived.Test.YtioediibbgklcaaSzFast5
namespace Go.Proofs.Ytioediibbgklcaa.Sx
open Go Go.RowKit
set_option linter.unusedVariables false
set_option linter.unusedSimpArgs false
set_option maxRecDepth 100000
noncomputable section
def trF (k : Nat) (s : Bool) : List (B × Bool) := [(.cmp .eql (.bits .and .i64 (.var 0) (.lit 7)) (.lit k), true), (.var 0, s)]
/-- The call, where the number's part is k and the truth value is s. -/
def trT (k : Nat) (s : Bool) : T V := callTopF Try.prog noSum (List.range 53) 30000 3 [.int .i64 (.var 0), .bool (.var 0)] (trF k s)
def isTrue (t : T V) : Bool :=
  match t with
  | .ret (.bool (.lit x)) => x
  | _ => false
theorem isTrue_ok {η : Env} {t : T V} (h : isTrue t = true) : t.good η := by
  unfold isTrue at h
  split at h
  · exact h
  · simp at h
theorem tr_plans : okFns Try.prog (List.range 53) = true := by decide +kernel
end
end Go.Proofs.Ytioediibbgklcaa.Sx
