/- What heap.Class answers. -/
import Derived.Test.YtlpdemdakcjjjaaProg
import Derived.Test.YtlpdemdakcjjjaaSxSum
namespace Go.Proofs.Ytlpdemdakcjjjaa.Sx
open Go Go.RowKit
set_option linter.unusedVariables false
set_option linter.unusedSimpArgs false
set_option maxRecDepth 100000

def clsK (w : Int) : Int := if 0 ≤ w then (if w ≤ 4 then 0 else if w ≤ 16 then 1 else if w ≤ 64 then 2 else if w ≤ 128 then 3 else 0) else 0
def clsS (w : Int) : Int := if 0 ≤ w then (if w ≤ 4 then 4 else if w ≤ 16 then 16 else if w ≤ 64 then 64 else if w ≤ 128 then 128 else 0) else 0
def clsB (w : Int) : Int := if 0 ≤ w then (if w ≤ 4 then 64 else if w ≤ 16 then 32 else if w ≤ 64 then 16 else if w ≤ 128 then 8 else 0) else 0
def clsE (w : Int) : Int := if 0 ≤ w then (if w ≤ 128 then 0 else 2) else 2
def classT : T V := (.node (.cmp .geq (.var 0) (.lit 0)) (.node (.cmp .leq (.var 0) (.lit 4)) (.ret (.tuple [(.int .i64 (.lit 0)), (.int .i64 (.lit 4)), (.int .i64 (.lit 64)), (.int .i64 (.lit 0))])) (.node (.cmp .leq (.var 0) (.lit 16)) (.ret (.tuple [(.int .i64 (.lit 1)), (.int .i64 (.lit 16)), (.int .i64 (.lit 32)), (.int .i64 (.lit 0))])) (.node (.cmp .leq (.var 0) (.lit 64)) (.ret (.tuple [(.int .i64 (.lit 2)), (.int .i64 (.lit 64)), (.int .i64 (.lit 16)), (.int .i64 (.lit 0))])) (.node (.cmp .leq (.var 0) (.lit 128)) (.ret (.tuple [(.int .i64 (.lit 3)), (.int .i64 (.lit 128)), (.int .i64 (.lit 8)), (.int .i64 (.lit 0))])) (.ret (.tuple [(.int .i64 (.lit 0)), (.int .i64 (.lit 0)), (.int .i64 (.lit 0)), (.int .i64 (.lit 2))])))))) (.ret (.tuple [(.int .i64 (.lit 0)), (.int .i64 (.lit 0)), (.int .i64 (.lit 0)), (.int .i64 (.lit 2))])))
theorem class_eq : callTop Try.prog noSum 60 8 [.int .i64 (.var 0)] [] = classT := by kernel_rfl
theorem class_calls (w : Int) (W : World) : Calls Try.prog 8 #[.int .i64 w] W fun e W' => e = .returned (.tuple #[.int .i64 (clsK w), .int .i64 (clsS w), .int .i64 (clsB w), .int .i64 (clsE w)]) ∧ Below W.heap.size W W' := by
  refine contract (η := { i := fun _ => w }) (plain_of (by kernel_rfl)) (by kernel_rfl) (noSum_ok _ _) (n := 60) (args := [.int .i64 (.var 0)]) (args' := [.int .i64 w]) (.cons _ _ _ _ (.int _ _) .nil) facts_none ?_ W
  rw [class_eq]
  simp only [classT, T.gives, V.val, V.vals, B.prop, E.den, propI, Option.map_some, Option.some.injEq, Value.tuple.injEq, clsK, clsS, clsB, clsE]
  repeat' first | apply And.intro | intro _
  all_goals (repeat' split) <;> first | rfl | omega
def classG : List V → Option V
  | [.int .i64 (.lit n)] => some (.tuple [.int .i64 (.lit (clsK n)), .int .i64 (.lit (clsS n)), .int .i64 (.lit (clsB n)), .int .i64 (.lit (clsE n))])
  | [.int .i64 e] => some (.tuple [.int .i64 (.fn 0 e (.lit 0) (.lit 0)), .int .i64 (.fn 1 e (.lit 0) (.lit 0)), .int .i64 (.fn 2 e (.lit 0) (.lit 0)), .int .i64 (.fn 3 e (.lit 0) (.lit 0))])
  | _ => none
def classF (i : Nat) (w _ _ : Int) : Int := if i = 0 then clsK w else if i = 1 then clsS w else if i = 2 then clsB w else clsE w
def classSum : Summary := Summary.put noSum 8 classG
theorem classSum_ok (η : Env) (h : η.fi = classF) : SumOk η Try.prog classSum := by
  refine SumOk.put (noSum_ok _ _) ?_
  intro args v hv φ args' W ha
  unfold classG at hv
  split at hv
  · rename_i n
    simp only [Option.some.injEq] at hv; subst hv
    rw [one_int ha]
    refine (class_calls n W).mono ?_
    rintro e W' ⟨rfl, hb⟩
    exact ⟨_, rfl, fun φ => V.val_ok (.tuple [.int .i64 (.lit (clsK n)), .int .i64 (.lit (clsS n)), .int .i64 (.lit (clsB n)), .int .i64 (.lit (clsE n))]) _ rfl, hb⟩
  · rename_i e _
    simp only [Option.some.injEq] at hv; subst hv
    rw [one_int ha]
    refine (class_calls (e.den η) W).mono ?_
    rintro ex W' ⟨rfl, hb⟩
    refine ⟨_, rfl, fun φ => V.val_ok (.tuple [.int .i64 (.fn 0 e (.lit 0) (.lit 0)), .int .i64 (.fn 1 e (.lit 0) (.lit 0)), .int .i64 (.fn 2 e (.lit 0) (.lit 0)), .int .i64 (.fn 3 e (.lit 0) (.lit 0))]) _ ?_, hb⟩
    simp only [V.val, V.vals, E.den, h]
    rfl
  · simp at hv
end Go.Proofs.Ytlpdemdakcjjjaa.Sx
