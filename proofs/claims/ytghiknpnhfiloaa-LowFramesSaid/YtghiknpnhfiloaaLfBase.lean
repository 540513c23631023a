/- LowFrames: its runs, and what is to be shown of each. -/
import Derived.Test.YtghiknpnhfiloaaProg
import Derived.Test.YtghiknpnhfiloaaSzFast5
namespace Go.Proofs.Ytghiknpnhfiloaa.Sx
open Go Go.RowKit
set_option linter.unusedVariables false
set_option linter.unusedSimpArgs false
set_option maxRecDepth 100000
noncomputable section
def lfF (n m : Nat) : List (B × Bool) := [(.cmp .eql (.bits .and .i64 (.var 0) (.lit 15)) (.lit n), true), (.cmp .eql (.bits .and .i64 (.var 1) (.lit 31)) (.lit m), true)]
/-- The call, where the numbers' parts are n and m. -/
def lfT (n m : Nat) : T V := callTopF Try.prog noSum (List.range 53) 4000 6 [.int .i64 (.var 0), .int .i64 (.var 1)] (lfF n m)
def isTrue (t : T V) : Bool :=
  match t with
  | .ret (.bool (.lit x)) => x
  | _ => false
theorem isTrue_ok {η : Env} {t : T V} (h : isTrue t = true) : t.good η := by
  unfold isTrue at h
  split at h
  · exact h
  · simp at h
/-- The run comes to true. -/
structure LfP (n m : Nat) : Prop where
  out : isTrue (lfT n m) = true
theorem lf_plans : okFns Try.prog (List.range 53) = true := by decide +kernel
theorem lf_eq (n m : Nat) : lfT n m = callTop Try.prog noSum 4000 6 [.int .i64 (.var 0), .int .i64 (.var 1)] (lfF n m) := callTopF_eq lf_plans 4000 6 _ _
end
end Go.Proofs.Ytghiknpnhfiloaa.Sx
