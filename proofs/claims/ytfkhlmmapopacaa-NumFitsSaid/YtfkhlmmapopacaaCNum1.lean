/- Kinds of numbers: what the functions of shapes answer. -/
import Derived.Test.YtfkhlmmapopacaaProg
import Derived.Test.YtfkhlmmapopacaaSxSum
namespace Go.Proofs.Ytfkhlmmapopacaa.Sx
open Go Go.RowKit
set_option linter.unusedVariables false
set_option linter.unusedSimpArgs false
set_option maxRecDepth 100000

def kB (k : Int) : Int := if k = 3 then 8 else if k = 4 then 16 else if k = 5 then 32 else if k = 6 then 8 else if k = 7 then 16 else if k = 8 then 32 else 0
def kS (k : Int) : Bool := if k = 3 then true else if k = 4 then true else if k = 5 then true else false
def kW (k v : Int) : Int := if k = 3 then IntKind.i8.wrap v else if k = 4 then IntKind.i16.wrap v else if k = 5 then IntKind.i32.wrap v else if k = 6 then IntKind.u8.wrap v else if k = 7 then IntKind.u16.wrap v else if k = 8 then IntKind.u32.wrap v else 0
def kLo (k : Int) : Int := if k = 3 then -128 else if k = 4 then -32768 else if k = 5 then -2147483648 else 0
def kHi (k : Int) : Int := if k = 3 then 127 else if k = 4 then 32767 else if k = 5 then 2147483647 else if k = 6 then 255 else if k = 7 then 65535 else if k = 8 then 4294967295 else 0
def kI (k : Int) : Bool := if k = 3 then true else if k = 4 then true else if k = 5 then true else if k = 6 then true else if k = 7 then true else if k = 8 then true else false
def kF (i : Nat) (k v _ : Int) : Int := if i = 10 then kB k else if i = 11 then kW k v else if i = 12 then kLo k else kHi k
def kG (i : Nat) (k v _ : Int) : Bool := if i = 10 then kS k else kI k
theorem kF10 (k v x : Int) : kF 10 k v x = kB k := rfl
theorem kF11 (k v x : Int) : kF 11 k v x = kW k v := rfl
theorem kF12 (k v x : Int) : kF 12 k v x = kLo k := rfl
theorem kF13 (k v x : Int) : kF 13 k v x = kHi k := rfl
theorem kG10 (k v x : Int) : kG 10 k v x = kS k := rfl
theorem kG11 (k v x : Int) : kG 11 k v x = kI k := rfl
theorem kinds (k : Int) : k < 0 ∨ k = 0 ∨ k = 1 ∨ k = 2 ∨ k = 3 ∨ k = 4 ∨ k = 5 ∨ k = 6 ∨ k = 7 ∨ k = 8 ∨ 8 < k := by omega
theorem kinds7 (k : Int) : k = 3 ∨ k = 4 ∨ k = 5 ∨ k = 6 ∨ k = 7 ∨ k = 8 ∨ (k ≠ 3 ∧ k ≠ 4 ∧ k ≠ 5 ∧ k ≠ 6 ∧ k ≠ 7 ∧ k ≠ 8) := by omega
def shapeNT : T V := (.ret (.agg [(.int .i64 (.lit 0)), (.bool (.lit false))]))
theorem shapeN_eq : callTop Try.prog noSum 60 23 [.int .i64 (.var 0)] (factsOf (.var 0) (-1)) = shapeNT := by kernel_rfl
def shape0T : T V := (.ret (.agg [(.int .i64 (.lit 0)), (.bool (.lit false))]))
theorem shape0_eq : callTop Try.prog noSum 60 23 [.int .i64 (.var 0)] (factsOf (.var 0) (0)) = shape0T := by kernel_rfl
def shape1T : T V := (.ret (.agg [(.int .i64 (.lit 0)), (.bool (.lit false))]))
theorem shape1_eq : callTop Try.prog noSum 60 23 [.int .i64 (.var 0)] (factsOf (.var 0) (1)) = shape1T := by kernel_rfl
def shape2T : T V := (.ret (.agg [(.int .i64 (.lit 0)), (.bool (.lit false))]))
theorem shape2_eq : callTop Try.prog noSum 60 23 [.int .i64 (.var 0)] (factsOf (.var 0) (2)) = shape2T := by kernel_rfl
def shape3T : T V := (.ret (.agg [(.int .i64 (.lit 8)), (.bool (.lit true))]))
theorem shape3_eq : callTop Try.prog noSum 60 23 [.int .i64 (.var 0)] (factsOf (.var 0) (3)) = shape3T := by kernel_rfl
def shape4T : T V := (.ret (.agg [(.int .i64 (.lit 16)), (.bool (.lit true))]))
theorem shape4_eq : callTop Try.prog noSum 60 23 [.int .i64 (.var 0)] (factsOf (.var 0) (4)) = shape4T := by kernel_rfl
def shape5T : T V := (.ret (.agg [(.int .i64 (.lit 32)), (.bool (.lit true))]))
theorem shape5_eq : callTop Try.prog noSum 60 23 [.int .i64 (.var 0)] (factsOf (.var 0) (5)) = shape5T := by kernel_rfl
def shape6T : T V := (.ret (.agg [(.int .i64 (.lit 8)), (.bool (.lit false))]))
theorem shape6_eq : callTop Try.prog noSum 60 23 [.int .i64 (.var 0)] (factsOf (.var 0) (6)) = shape6T := by kernel_rfl
def shape7T : T V := (.ret (.agg [(.int .i64 (.lit 16)), (.bool (.lit false))]))
theorem shape7_eq : callTop Try.prog noSum 60 23 [.int .i64 (.var 0)] (factsOf (.var 0) (7)) = shape7T := by kernel_rfl
def shape8T : T V := (.ret (.agg [(.int .i64 (.lit 32)), (.bool (.lit false))]))
theorem shape8_eq : callTop Try.prog noSum 60 23 [.int .i64 (.var 0)] (factsOf (.var 0) (8)) = shape8T := by kernel_rfl
def shape9T : T V := (.ret (.agg [(.int .i64 (.lit 0)), (.bool (.lit false))]))
theorem shape9_eq : callTop Try.prog noSum 60 23 [.int .i64 (.var 0)] (factsOf (.var 0) (9)) = shape9T := by kernel_rfl
theorem shape_calls (k : Int) (W : World) : Calls Try.prog 23 #[.int .i64 k] W fun e W' => e = .returned (.agg #[.int .i64 (kB k), .bool (kS k)]) ∧ Below W.heap.size W W' := by
  rcases kinds k with hc | hc | hc | hc | hc | hc | hc | hc | hc | hc | hc
  · refine contract (η := { i := fun _ => k }) (plain_of (by kernel_rfl)) (by kernel_rfl) (noSum_ok _ _) (n := 60) (args := [.int .i64 (.var 0)]) (args' := [.int .i64 k]) (.cons _ _ _ _ (.int _ _) .nil) (factsOf_neg (e := .var 0) hc) ?_ W
    rw [shapeN_eq]
    have h1 : kB k = 0 := by unfold kB; (repeat' split) <;> omega
    have h2 : kS k = false := by unfold kS; (repeat' split) <;> first | rfl | omega
    rw [h1, h2]; rfl
  · refine contract (η := { i := fun _ => k }) (plain_of (by kernel_rfl)) (by kernel_rfl) (noSum_ok _ _) (n := 60) (args := [.int .i64 (.var 0)]) (args' := [.int .i64 k]) (.cons _ _ _ _ (.int _ _) .nil) (factsOf_ok (e := .var 0) hc) ?_ W
    rw [shape0_eq]
    have h1 : kB k = 0 := by unfold kB; (repeat' split) <;> omega
    have h2 : kS k = false := by unfold kS; (repeat' split) <;> first | rfl | omega
    rw [h1, h2]; rfl
  · refine contract (η := { i := fun _ => k }) (plain_of (by kernel_rfl)) (by kernel_rfl) (noSum_ok _ _) (n := 60) (args := [.int .i64 (.var 0)]) (args' := [.int .i64 k]) (.cons _ _ _ _ (.int _ _) .nil) (factsOf_ok (e := .var 0) hc) ?_ W
    rw [shape1_eq]
    have h1 : kB k = 0 := by unfold kB; (repeat' split) <;> omega
    have h2 : kS k = false := by unfold kS; (repeat' split) <;> first | rfl | omega
    rw [h1, h2]; rfl
  · refine contract (η := { i := fun _ => k }) (plain_of (by kernel_rfl)) (by kernel_rfl) (noSum_ok _ _) (n := 60) (args := [.int .i64 (.var 0)]) (args' := [.int .i64 k]) (.cons _ _ _ _ (.int _ _) .nil) (factsOf_ok (e := .var 0) hc) ?_ W
    rw [shape2_eq]
    have h1 : kB k = 0 := by unfold kB; (repeat' split) <;> omega
    have h2 : kS k = false := by unfold kS; (repeat' split) <;> first | rfl | omega
    rw [h1, h2]; rfl
  · refine contract (η := { i := fun _ => k }) (plain_of (by kernel_rfl)) (by kernel_rfl) (noSum_ok _ _) (n := 60) (args := [.int .i64 (.var 0)]) (args' := [.int .i64 k]) (.cons _ _ _ _ (.int _ _) .nil) (factsOf_ok (e := .var 0) hc) ?_ W
    rw [shape3_eq]
    have h1 : kB k = 8 := by unfold kB; (repeat' split) <;> omega
    have h2 : kS k = true := by unfold kS; (repeat' split) <;> first | rfl | omega
    rw [h1, h2]; rfl
  · refine contract (η := { i := fun _ => k }) (plain_of (by kernel_rfl)) (by kernel_rfl) (noSum_ok _ _) (n := 60) (args := [.int .i64 (.var 0)]) (args' := [.int .i64 k]) (.cons _ _ _ _ (.int _ _) .nil) (factsOf_ok (e := .var 0) hc) ?_ W
    rw [shape4_eq]
    have h1 : kB k = 16 := by unfold kB; (repeat' split) <;> omega
    have h2 : kS k = true := by unfold kS; (repeat' split) <;> first | rfl | omega
    rw [h1, h2]; rfl
  · refine contract (η := { i := fun _ => k }) (plain_of (by kernel_rfl)) (by kernel_rfl) (noSum_ok _ _) (n := 60) (args := [.int .i64 (.var 0)]) (args' := [.int .i64 k]) (.cons _ _ _ _ (.int _ _) .nil) (factsOf_ok (e := .var 0) hc) ?_ W
    rw [shape5_eq]
    have h1 : kB k = 32 := by unfold kB; (repeat' split) <;> omega
    have h2 : kS k = true := by unfold kS; (repeat' split) <;> first | rfl | omega
    rw [h1, h2]; rfl
  · refine contract (η := { i := fun _ => k }) (plain_of (by kernel_rfl)) (by kernel_rfl) (noSum_ok _ _) (n := 60) (args := [.int .i64 (.var 0)]) (args' := [.int .i64 k]) (.cons _ _ _ _ (.int _ _) .nil) (factsOf_ok (e := .var 0) hc) ?_ W
    rw [shape6_eq]
    have h1 : kB k = 8 := by unfold kB; (repeat' split) <;> omega
    have h2 : kS k = false := by unfold kS; (repeat' split) <;> first | rfl | omega
    rw [h1, h2]; rfl
  · refine contract (η := { i := fun _ => k }) (plain_of (by kernel_rfl)) (by kernel_rfl) (noSum_ok _ _) (n := 60) (args := [.int .i64 (.var 0)]) (args' := [.int .i64 k]) (.cons _ _ _ _ (.int _ _) .nil) (factsOf_ok (e := .var 0) hc) ?_ W
    rw [shape7_eq]
    have h1 : kB k = 16 := by unfold kB; (repeat' split) <;> omega
    have h2 : kS k = false := by unfold kS; (repeat' split) <;> first | rfl | omega
    rw [h1, h2]; rfl
  · refine contract (η := { i := fun _ => k }) (plain_of (by kernel_rfl)) (by kernel_rfl) (noSum_ok _ _) (n := 60) (args := [.int .i64 (.var 0)]) (args' := [.int .i64 k]) (.cons _ _ _ _ (.int _ _) .nil) (factsOf_ok (e := .var 0) hc) ?_ W
    rw [shape8_eq]
    have h1 : kB k = 32 := by unfold kB; (repeat' split) <;> omega
    have h2 : kS k = false := by unfold kS; (repeat' split) <;> first | rfl | omega
    rw [h1, h2]; rfl
  · refine contract (η := { i := fun _ => k }) (plain_of (by kernel_rfl)) (by kernel_rfl) (noSum_ok _ _) (n := 60) (args := [.int .i64 (.var 0)]) (args' := [.int .i64 k]) (.cons _ _ _ _ (.int _ _) .nil) (factsOf_big (e := .var 0) hc) ?_ W
    rw [shape9_eq]
    have h1 : kB k = 0 := by unfold kB; (repeat' split) <;> omega
    have h2 : kS k = false := by unfold kS; (repeat' split) <;> first | rfl | omega
    rw [h1, h2]; rfl
def wrapT : T V := (.node (.cmp .eql (.var 0) (.lit 3)) (.ret (.int .i64 (.wrap .i8 (.var 1)))) (.node (.cmp .eql (.var 0) (.lit 4)) (.ret (.int .i64 (.wrap .i16 (.var 1)))) (.node (.cmp .eql (.var 0) (.lit 5)) (.ret (.int .i64 (.wrap .i32 (.var 1)))) (.node (.cmp .eql (.var 0) (.lit 6)) (.ret (.int .i64 (.wrap .u8 (.var 1)))) (.node (.cmp .eql (.var 0) (.lit 7)) (.ret (.int .i64 (.wrap .u16 (.var 1)))) (.node (.cmp .eql (.var 0) (.lit 8)) (.ret (.int .i64 (.wrap .u32 (.var 1)))) (.ret (.int .i64 (.lit 0)))))))))
theorem wrap_eq : callTop Try.prog noSum 60 17 [.int .i64 (.var 0), .int .i64 (.var 1)] [] = wrapT := by kernel_rfl
theorem wrap_calls (k v : Int) (W : World) : Calls Try.prog 17 #[.int .i64 k, .int .i64 v] W fun e W' => e = .returned (.int .i64 (kW k v)) ∧ Below W.heap.size W W' := by
  refine contract (η := { i := fun n => if n = 0 then k else v }) (plain_of (by kernel_rfl)) (by kernel_rfl) (noSum_ok _ _) (n := 60) (args := [.int .i64 (.var 0), .int .i64 (.var 1)]) (args' := [.int .i64 k, .int .i64 v]) (.cons _ _ _ _ (.int _ _) (.cons _ _ _ _ (.int _ _) .nil)) facts_none ?_ W
  rw [wrap_eq]
  show wrapT.gives _ _
  simp only [wrapT, T.gives, V.val, B.prop, E.den, propI, Option.some.injEq, kW]
  repeat' first | apply And.intro | intro _
  all_goals simp_all
def rbitsT : T V := (.node (.cmp .eql (.var 0) (.lit 3)) (.ret (.tuple [(.int .i64 (.lit 8)), (.bool (.lit true))])) (.node (.cmp .eql (.var 0) (.lit 4)) (.ret (.tuple [(.int .i64 (.lit 16)), (.bool (.lit true))])) (.node (.cmp .eql (.var 0) (.lit 5)) (.ret (.tuple [(.int .i64 (.lit 32)), (.bool (.lit true))])) (.node (.cmp .eql (.var 0) (.lit 6)) (.ret (.tuple [(.int .i64 (.lit 8)), (.bool (.lit false))])) (.node (.cmp .eql (.var 0) (.lit 7)) (.ret (.tuple [(.int .i64 (.lit 16)), (.bool (.lit false))])) (.node (.cmp .eql (.var 0) (.lit 8)) (.ret (.tuple [(.int .i64 (.lit 32)), (.bool (.lit false))])) (.ret (.tuple [(.int .i64 (.lit 0)), (.bool (.lit false))]))))))))
theorem rbits_eq : callTop Try.prog noSum 60 12 [.int .i64 (.var 0)] [] = rbitsT := by kernel_rfl
theorem rbits_calls (k : Int) (W : World) : Calls Try.prog 12 #[.int .i64 k] W fun e W' => e = .returned (.tuple #[.int .i64 (kB k), .bool (kS k)]) ∧ Below W.heap.size W W' := by
  refine contract (η := { i := fun _ => k }) (plain_of (by kernel_rfl)) (by kernel_rfl) (noSum_ok _ _) (n := 60) (args := [.int .i64 (.var 0)]) (args' := [.int .i64 k]) (.cons _ _ _ _ (.int _ _) .nil) facts_none ?_ W
  rw [rbits_eq]
  simp only [rbitsT, T.gives, V.val, V.vals, B.den, B.prop, E.den, propI, Option.some.injEq, kB, kS, Option.map_some]
  repeat' first | apply And.intro | intro _
  all_goals simp_all
/-- Shapes, wrapping and the document's bits, as answers. -/
def sum1 : Summary := ((Summary.put noSum 23 fun
  | [.int .i64 e] => some (.agg [.int .i64 (.fn 10 e (.lit 0) (.lit 0)), .bool (.fn 10 e (.lit 0) (.lit 0))])
  | _ => none).put 12 fun
  | [.int .i64 e] => some (.tuple [.int .i64 (.fn 10 e (.lit 0) (.lit 0)), .bool (.fn 10 e (.lit 0) (.lit 0))])
  | _ => none).put 17 fun
  | [.int .i64 e, .int .i64 v] => some (.int .i64 (.fn 11 e v (.lit 0)))
  | _ => none
theorem sum1_ok (η : Env) (h : η.fi = kF) (h' : η.fb = kG) : SumOk η Try.prog sum1 := by
  refine SumOk.put (SumOk.put (SumOk.put (noSum_ok _ _) ?_) ?_) ?_
  · intro args v hv φ args' W ha
    split at hv
    · rename_i e
      simp only [Option.some.injEq] at hv; subst hv
      rw [one_int ha]
      refine (shape_calls (e.den η) W).mono ?_
      rintro ex W' ⟨rfl, hb⟩
      refine ⟨_, rfl, fun φ => V.val_ok _ _ ?_, hb⟩
      simp only [V.val, V.vals, E.den, B.den, h, h']; rfl
    · simp at hv
  · intro args v hv φ args' W ha
    split at hv
    · rename_i e
      simp only [Option.some.injEq] at hv; subst hv
      rw [one_int ha]
      refine (rbits_calls (e.den η) W).mono ?_
      rintro ex W' ⟨rfl, hb⟩
      refine ⟨_, rfl, fun φ => V.val_ok _ _ ?_, hb⟩
      simp only [V.val, V.vals, E.den, B.den, h, h']; rfl
    · simp at hv
  · intro args v hv φ args' W ha
    split at hv
    · rename_i e x
      simp only [Option.some.injEq] at hv; subst hv
      rw [two_ints ha]
      refine (wrap_calls (e.den η) (x.den η) W).mono ?_
      rintro ex W' ⟨rfl, hb⟩
      refine ⟨_, rfl, fun φ => V.val_ok _ _ ?_, hb⟩
      simp only [V.val, V.vals, E.den, B.den, h, h']; rfl
    · simp at hv
end Go.Proofs.Ytfkhlmmapopacaa.Sx
