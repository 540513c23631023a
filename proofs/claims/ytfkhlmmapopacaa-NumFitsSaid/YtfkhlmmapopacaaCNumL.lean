/- The same, told at once where the kind is a number. -/
import Derived.Test.YtfkhlmmapopacaaProg
import Derived.Test.YtfkhlmmapopacaaSxSum
import Derived.Test.YtfkhlmmapopacaaCNum1
namespace Go.Proofs.Ytfkhlmmapopacaa.Sx
open Go Go.RowKit
set_option linter.unusedVariables false
set_option linter.unusedSimpArgs false
set_option maxRecDepth 100000

theorem kW3 (v : Int) : kW 3 v = IntKind.i8.wrap v := rfl
theorem kW4 (v : Int) : kW 4 v = IntKind.i16.wrap v := rfl
theorem kW5 (v : Int) : kW 5 v = IntKind.i32.wrap v := rfl
theorem kW6 (v : Int) : kW 6 v = IntKind.u8.wrap v := rfl
theorem kW7 (v : Int) : kW 7 v = IntKind.u16.wrap v := rfl
theorem kW8 (v : Int) : kW 8 v = IntKind.u32.wrap v := rfl
def litG (tup : List V → V) : List V → Option V
  | [.int .i64 (.lit n)] => some (tup [.int .i64 (.lit (kB n)), .bool (.lit (kS n))])
  | _ => none
def sumL : Summary := (Summary.put noSum 23 (litG .agg)).put 12 (litG .tuple)
theorem sumL_ok (η : Env) (h : η.fi = kF) (h' : η.fb = kG) : SumOk η Try.prog sumL := by
  refine SumOk.put (SumOk.put (noSum_ok _ _) ?_) ?_
  · intro args v hv φ args' W ha
    unfold litG at hv
    split at hv
    · rename_i n
      simp only [Option.some.injEq] at hv; subst hv
      rw [one_int ha]
      refine (shape_calls n W).mono ?_
      rintro ex W' ⟨rfl, hb⟩
      exact ⟨_, rfl, fun φ => V.val_ok _ _ rfl, hb⟩
    · simp at hv
  · intro args v hv φ args' W ha
    unfold litG at hv
    split at hv
    · rename_i n
      simp only [Option.some.injEq] at hv; subst hv
      rw [one_int ha]
      refine (rbits_calls n W).mono ?_
      rintro ex W' ⟨rfl, hb⟩
      exact ⟨_, rfl, fun φ => V.val_ok _ _ rfl, hb⟩
    · simp at hv
end Go.Proofs.Ytfkhlmmapopacaa.Sx
