/- The heap's classes: what all, Class, and the document's Class and place answer (by runs). -/
import Derived.Test.YtlpdemdakcjjjaaProg
import Derived.Test.YtlpdemdakcjjjaaSzPure
namespace Go.Proofs.Ytlpdemdakcjjjaa.Sx
open Go Go.RowKit
set_option linter.unusedVariables false
set_option linter.unusedSimpArgs false
noncomputable section
def clsK (w : Int) : Int := if 0 ≤ w then (if w ≤ 4 then 0 else if w ≤ 16 then 1 else if w ≤ 64 then 2 else if w ≤ 128 then 3 else 0) else 0
def clsS (w : Int) : Int := if 0 ≤ w then (if w ≤ 4 then 4 else if w ≤ 16 then 16 else if w ≤ 64 then 64 else if w ≤ 128 then 128 else 0) else 0
def clsB (w : Int) : Int := if 0 ≤ w then (if w ≤ 4 then 64 else if w ≤ 16 then 32 else if w ≤ 64 then 16 else if w ≤ 128 then 8 else 0) else 0
def clsE (w : Int) : Int := if 0 ≤ w then (if w ≤ 128 then 0 else 2) else 2
def classT : T V := (.node (.cmp .geq (.var 0) (.lit 0)) (.node (.cmp .leq (.var 0) (.lit 4)) (.ret (.tuple [(.int .i64 (.lit 0)), (.int .i64 (.lit 4)), (.int .i64 (.lit 64)), (.int .i64 (.lit 0))])) (.node (.cmp .leq (.var 0) (.lit 16)) (.ret (.tuple [(.int .i64 (.lit 1)), (.int .i64 (.lit 16)), (.int .i64 (.lit 32)), (.int .i64 (.lit 0))])) (.node (.cmp .leq (.var 0) (.lit 64)) (.ret (.tuple [(.int .i64 (.lit 2)), (.int .i64 (.lit 64)), (.int .i64 (.lit 16)), (.int .i64 (.lit 0))])) (.node (.cmp .leq (.var 0) (.lit 128)) (.ret (.tuple [(.int .i64 (.lit 3)), (.int .i64 (.lit 128)), (.int .i64 (.lit 8)), (.int .i64 (.lit 0))])) (.ret (.tuple [(.int .i64 (.lit 0)), (.int .i64 (.lit 0)), (.int .i64 (.lit 0)), (.int .i64 (.lit 2))])))))) (.ret (.tuple [(.int .i64 (.lit 0)), (.int .i64 (.lit 0)), (.int .i64 (.lit 0)), (.int .i64 (.lit 2))])))
theorem class_eq : callTop Try.prog noSum 60 8 [.int .i64 (.var 0)] [] = classT := by kernel_rfl
theorem class_calls (w : Int) (W : World) : Calls Try.prog 8 #[.int .i64 w] W fun e W' => e = .returned (.tuple #[.int .i64 (clsK w), .int .i64 (clsS w), .int .i64 (clsB w), .int .i64 (clsE w)]) ∧ Below W.heap.size W W' := by
  refine contract (η := { i := fun _ => w }) (plain_of (by kernel_rfl)) (by kernel_rfl) (noSum_ok _ _) (n := 60) (args := [.int .i64 (.var 0)]) (args' := [.int .i64 w]) (.cons _ _ _ _ (.int _ _) .nil) facts_none ?_ W
  rw [class_eq]
  simp only [classT, T.gives, V.val, V.vals, B.prop, E.den, propI, Option.map_some, Option.some.injEq, Value.tuple.injEq, clsK, clsS, clsB, clsE]
  repeat' first | apply And.intro | intro _
  all_goals (repeat' split) <;> first | rfl | omega
def rclassT : T V := (.node (.cmp .lss (.var 0) (.lit 0)) (.ret (.tuple [(.int .i64 (.lit 0)), (.int .i64 (.lit 0)), (.int .i64 (.lit 0)), (.int .i64 (.lit 2))])) (.node (.cmp .gtr (.var 0) (.lit 128)) (.ret (.tuple [(.int .i64 (.lit 0)), (.int .i64 (.lit 0)), (.int .i64 (.lit 0)), (.int .i64 (.lit 2))])) (.node (.cmp .leq (.var 0) (.lit 4)) (.ret (.tuple [(.int .i64 (.lit 0)), (.int .i64 (.lit 4)), (.int .i64 (.lit 64)), (.int .i64 (.lit 0))])) (.node (.cmp .leq (.var 0) (.lit 16)) (.ret (.tuple [(.int .i64 (.lit 1)), (.int .i64 (.lit 16)), (.int .i64 (.lit 32)), (.int .i64 (.lit 0))])) (.node (.cmp .leq (.var 0) (.lit 64)) (.ret (.tuple [(.int .i64 (.lit 2)), (.int .i64 (.lit 64)), (.int .i64 (.lit 16)), (.int .i64 (.lit 0))])) (.ret (.tuple [(.int .i64 (.lit 3)), (.int .i64 (.lit 128)), (.int .i64 (.lit 8)), (.int .i64 (.lit 0))])))))))
theorem rclass_eq : callTop Try.prog noSum 60 17 [.int .i64 (.var 0)] [] = rclassT := by kernel_rfl
theorem rclass_calls (w : Int) (W : World) : Calls Try.prog 17 #[.int .i64 w] W fun e W' => e = .returned (.tuple #[.int .i64 (clsK w), .int .i64 (clsS w), .int .i64 (clsB w), .int .i64 (clsE w)]) ∧ Below W.heap.size W W' := by
  refine contract (η := { i := fun _ => w }) (plain_of (by kernel_rfl)) (by kernel_rfl) (noSum_ok _ _) (n := 60) (args := [.int .i64 (.var 0)]) (args' := [.int .i64 w]) (.cons _ _ _ _ (.int _ _) .nil) facts_none ?_ W
  rw [rclass_eq]
  simp only [rclassT, T.gives, V.val, V.vals, B.prop, E.den, propI, Option.map_some, Option.some.injEq, Value.tuple.injEq, clsK, clsS, clsB, clsE]
  repeat' first | apply And.intro | intro _
  all_goals (repeat' split) <;> first | rfl | omega
def allV : Value := .agg #[.int .i64 4, .int .i64 64, .int .i64 262144, .int .i64 16, .int .i64 32, .int .i64 263168, .int .i64 64, .int .i64 16, .int .i64 265216, .int .i64 128, .int .i64 8, .int .i64 269312]
def allT : T V := (.ret (.agg [(.int .i64 (.lit 4)), (.int .i64 (.lit 64)), (.int .i64 (.lit 262144)), (.int .i64 (.lit 16)), (.int .i64 (.lit 32)), (.int .i64 (.lit 263168)), (.int .i64 (.lit 64)), (.int .i64 (.lit 16)), (.int .i64 (.lit 265216)), (.int .i64 (.lit 128)), (.int .i64 (.lit 8)), (.int .i64 (.lit 269312))]))
theorem all_eq : callTop Try.prog noSum 300 20 [] [] = allT := by kernel_rfl
theorem all_calls (W : World) : Calls Try.prog 20 #[] W fun e W' => e = .returned allV ∧ Below W.heap.size W W' := by
  refine contract (η := {}) (plain_of (by kernel_rfl)) (by kernel_rfl) (noSum_ok _ _) (n := 300) (args := []) (args' := []) .nil facts_none ?_ W
  rw [all_eq]
  simp only [allT, T.gives, V.val, V.vals, E.den, Option.map_some, Option.some.injEq]
  rfl
end
end Go.Proofs.Ytlpdemdakcjjjaa.Sx
