/- LowCounts: what Word answers; what each of LowCounts' ways comes to, and what is to be shown of it. -/
import Derived.Test.YtghiknpnhfiloaaProg
import Derived.Test.YtghiknpnhfiloaaSzFast5
namespace Go.Proofs.Ytghiknpnhfiloaa.Sx
open Go Go.RowKit
set_option linter.unusedVariables false
set_option linter.unusedSimpArgs false
set_option maxRecDepth 100000
noncomputable section
def wordX : E := .rem (.add (.rem (.var 0) (.lit 4294967296)) (.lit 4294967296)) (.lit 4294967296)
def wordT : T V := .node (.cmp .geq wordX (.lit 2147483648)) (.ret (.int .i64 (.sub wordX (.lit 4294967296)))) (.ret (.int .i64 wordX))
theorem word_eq : callTop Try.prog noSum 60 12 [.int .i64 (.var 0)] [] = wordT := by kernel_rfl
theorem word_calls (w : Int) (W : World) : Calls Try.prog 12 #[.int .i64 w] W fun e W' => e = .returned (.int .i64 (IntKind.wrap .i32 w)) ∧ Below W.heap.size W W' := by
  refine contract (η := { i := fun _ => w }) (plain_of (by kernel_rfl)) (by kernel_rfl) (noSum_ok _ _) (n := 60) (args := [.int .i64 (.var 0)]) (args' := [.int .i64 w]) (.cons _ _ _ _ (.int _ _) .nil) facts_none ?_ W
  rw [word_eq]
  simp only [wordT, wordX, T.gives, V.val, B.prop, E.den, propI, Option.some.injEq, tmod_mod4294967296, wrap_i32]
  refine ⟨fun h => ?_, fun h => ?_⟩ <;> congr 1 <;> omega
def wordG : List V → Option V := fun args => match args with
  | [.int .i64 e] => some (.int .i64 (E.wrap' .i32 e))
  | _ => none
def wordS : Summary := Summary.put noSum 12 wordG
theorem wordS_ok (η : Env) : SumOk η Try.prog wordS := by
  refine SumOk.put (noSum_ok _ _) ?_
  intro args v hv φ args' W ha
  unfold wordG at hv
  split at hv
  · rename_i e
    simp only [Option.some.injEq] at hv; subst hv
    rw [one_int ha]
    refine (word_calls (e.den η) W).mono ?_
    rintro ex W' ⟨rfl, hb⟩
    refine ⟨_, rfl, fun φ => V.val_ok (.int .i64 (E.wrap' .i32 e)) _ ?_, hb⟩
    simp only [V.val, E.wrap'_den]
  · simp at hv
def lcZ (k : Nat) : E := match k with
  | 0 => .add (.wrap .i32 (.var 1)) (.lit 0)
  | k => .wrap .i32 (.add (.wrap .i32 (.var 1)) (.lit (k * (k + 1) / 2 : Nat)))
def lcW : Nat → E → E
  | 0, e => e
  | k + 1, e => lcW k (.wrap .i32 (.add e (.lit (k + 1 : Nat))))
def lcF (k : Nat) : List (B × Bool) := [(.cmp .eql (.bits .and .i64 (.var 0) (.lit 31)) (.lit k), true)]
/-- The call, where the first number's part is k. -/
def lcT (k : Nat) : T V := callTopF Try.prog wordS (List.range 53) 4000 5 [.int .i64 (.var 0), .int .i64 (.var 1)] (lcF k)
/-- Is it one test, of these two terms? -/
def chkT (t : T V) (w z : E) : Bool :=
  match t with
  | .node (.cmp op a b) (.ret (.bool (.lit x))) (.ret (.bool (.lit y))) => decide (op = .neq) && a.beq w && b.beq z && !x && y
  | _ => false
theorem chkT_ok {η : Env} {t : T V} {w z : E} (h : chkT t w z = true) (e : w.den η = z.den η) : t.good η := by
  unfold chkT at h
  split at h
  · simp only [Bool.and_eq_true, decide_eq_true_eq, Bool.not_eq_true'] at h
    obtain ⟨⟨⟨⟨rfl, h1⟩, h2⟩, rfl⟩, rfl⟩ := h
    rw [E.beq_eq h1, E.beq_eq h2]
    exact ⟨fun q => absurd e q, fun _ => rfl⟩
  · simp at h
def lcB (k : Nat) : Bool := chkT (lcT k) (lcW k (.wrap .i32 (.var 1))) (lcZ k)
theorem lc_plans : okFns Try.prog (List.range 53) = true := by decide +kernel
end
end Go.Proofs.Ytghiknpnhfiloaa.Sx
