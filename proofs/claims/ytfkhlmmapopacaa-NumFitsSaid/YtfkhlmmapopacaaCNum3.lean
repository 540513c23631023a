/- Kinds of numbers: all that is known of them, as answers. -/
import Derived.Test.YtfkhlmmapopacaaProg
import Derived.Test.YtfkhlmmapopacaaSxSum
import Derived.Test.YtfkhlmmapopacaaCNum2
namespace Go.Proofs.Ytfkhlmmapopacaa.Sx
open Go Go.RowKit
set_option linter.unusedVariables false
set_option linter.unusedSimpArgs false
set_option maxRecDepth 100000
def sum2 : Summary := (((((sum1.put 13 fun
  | [.int .i64 e] => some (.tuple [.int .i64 (.fn 12 e (.lit 0) (.lit 0)), .int .i64 (.fn 13 e (.lit 0) (.lit 0))])
  | _ => none).put 14 fun
  | [.int .i64 e] => some (.tuple [.int .i64 (.fn 12 e (.lit 0) (.lit 0)), .int .i64 (.fn 13 e (.lit 0) (.lit 0))])
  | _ => none).put 15 fun
  | [.int .i64 e] => some (.bool (.fn 11 e (.lit 0) (.lit 0)))
  | _ => none).put 16 fun
  | [.int .i64 e] => some (.bool (.fn 11 e (.lit 0) (.lit 0)))
  | _ => none).put 18 fun
  | [.int .i64 e, .int .i64 v] => some (.int .i64 (.fn 11 e v (.lit 0)))
  | _ => none)
theorem sum2_ok (η : Env) (h : η.fi = kF) (h' : η.fb = kG) : SumOk η Try.prog sum2 := by
  refine SumOk.put (SumOk.put (SumOk.put (SumOk.put (SumOk.put (sum1_ok η h h') ?_) ?_) ?_) ?_) ?_
  · intro args v hv φ args' W ha
    split at hv
    · rename_i e
      simp only [Option.some.injEq] at hv; subst hv
      rw [one_int ha]
      refine (range_calls (e.den η) W).mono ?_
      rintro ex W' ⟨rfl, hb⟩
      refine ⟨_, rfl, fun φ => V.val_ok _ _ ?_, hb⟩
      simp only [V.val, V.vals, E.den, B.den, h, h']; rfl
    · simp at hv
  · intro args v hv φ args' W ha
    split at hv
    · rename_i e
      simp only [Option.some.injEq] at hv; subst hv
      rw [one_int ha]
      refine (rrange_calls (e.den η) W).mono ?_
      rintro ex W' ⟨rfl, hb⟩
      refine ⟨_, rfl, fun φ => V.val_ok _ _ ?_, hb⟩
      simp only [V.val, V.vals, E.den, B.den, h, h']; rfl
    · simp at hv
  · intro args v hv φ args' W ha
    split at hv
    · rename_i e
      simp only [Option.some.injEq] at hv; subst hv
      rw [one_int ha]
      refine (int_calls (e.den η) W).mono ?_
      rintro ex W' ⟨rfl, hb⟩
      refine ⟨_, rfl, fun φ => V.val_ok _ _ ?_, hb⟩
      simp only [V.val, V.vals, E.den, B.den, h, h']; rfl
    · simp at hv
  · intro args v hv φ args' W ha
    split at hv
    · rename_i e
      simp only [Option.some.injEq] at hv; subst hv
      rw [one_int ha]
      refine (rint_calls (e.den η) W).mono ?_
      rintro ex W' ⟨rfl, hb⟩
      refine ⟨_, rfl, fun φ => V.val_ok _ _ ?_, hb⟩
      simp only [V.val, V.vals, E.den, B.den, h, h']; rfl
    · simp at hv
  · intro args v hv φ args' W ha
    split at hv
    · rename_i e x
      simp only [Option.some.injEq] at hv; subst hv
      rw [two_ints ha]
      refine (rwrap_calls (e.den η) (x.den η) W).mono ?_
      rintro ex W' ⟨rfl, hb⟩
      refine ⟨_, rfl, fun φ => V.val_ok _ _ ?_, hb⟩
      simp only [V.val, V.vals, E.den, B.den, h, h']; rfl
    · simp at hv
end Go.Proofs.Ytfkhlmmapopacaa.Sx
