/- NamesInner: its runs, and what is shown of each. -/
import Derived.Test.YtpenfeehnpponaaProg
import Derived.Test.YtpenfeehnpponaaSzFast5
namespace Go.Proofs.Ytpenfeehnpponaa.Sx
open Go Go.RowKit
set_option linter.unusedVariables false
set_option linter.unusedSimpArgs false
set_option maxRecDepth 100000
noncomputable section
def niF (n m : Nat) (s : Bool) : List (B × Bool) := [(.cmp .eql (.bits .and .i64 (.var 0) (.lit 3)) (.lit n), true), (.cmp .eql (.bits .and .i64 (.var 1) (.lit 1)) (.lit m), true), (.var 0, s)]
/-- The call, where the numbers' parts are n and m, and the truth value is s. -/
def niT (n m : Nat) (s : Bool) : T V := callTopF Try.prog noSum (List.range 36) 4000 3 [.int .i64 (.var 0), .bool (.var 0), .int .i64 (.var 1)] (niF n m s)
def isTrue (t : T V) : Bool :=
  match t with
  | .ret (.bool (.lit x)) => x
  | _ => false
theorem isTrue_ok {η : Env} {t : T V} (h : isTrue t = true) : t.good η := by
  unfold isTrue at h
  split at h
  · exact h
  · simp at h
theorem ni_plans : okFns Try.prog (List.range 36) = true := by decide +kernel
theorem ni0_0t : isTrue (niT 0 0 true) = true := by decide +kernel
theorem ni0_0f : isTrue (niT 0 0 false) = true := by decide +kernel
theorem ni0_1t : isTrue (niT 0 1 true) = true := by decide +kernel
theorem ni0_1f : isTrue (niT 0 1 false) = true := by decide +kernel
theorem ni1_0t : isTrue (niT 1 0 true) = true := by decide +kernel
theorem ni1_0f : isTrue (niT 1 0 false) = true := by decide +kernel
theorem ni1_1t : isTrue (niT 1 1 true) = true := by decide +kernel
theorem ni1_1f : isTrue (niT 1 1 false) = true := by decide +kernel
theorem ni2_0t : isTrue (niT 2 0 true) = true := by decide +kernel
theorem ni2_0f : isTrue (niT 2 0 false) = true := by decide +kernel
theorem ni2_1t : isTrue (niT 2 1 true) = true := by decide +kernel
theorem ni2_1f : isTrue (niT 2 1 false) = true := by decide +kernel
theorem ni3_0t : isTrue (niT 3 0 true) = true := by decide +kernel
theorem ni3_0f : isTrue (niT 3 0 false) = true := by decide +kernel
theorem ni3_1t : isTrue (niT 3 1 true) = true := by decide +kernel
theorem ni3_1f : isTrue (niT 3 1 false) = true := by decide +kernel
end
end Go.Proofs.Ytpenfeehnpponaa.Sx
