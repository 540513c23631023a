/- What num.Do answers. -/
import Derived.Test.YtfkhlmmapopacaaProg
import Derived.Test.YtfkhlmmapopacaaSxSum
import Derived.Test.YtfkhlmmapopacaaDoSpec
namespace Go.Proofs.Ytfkhlmmapopacaa.Sx
open Go Go.RowKit
set_option linter.unusedVariables false
set_option linter.unusedSimpArgs false
set_option maxRecDepth 100000
def do0T : T V := (.node (.fn 11 (.var 0) (.lit 0) (.lit 0)) (.node (.cmp .eql (.fn 11 (.var 0) (.var 1) (.lit 0)) (.var 1)) (.node (.cmp .eql (.fn 11 (.var 0) (.var 2) (.lit 0)) (.var 2)) (.node (.cmp .eql (.fn 11 (.var 0) (.wrap .i64 (.add (.var 1) (.var 2))) (.lit 0)) (.wrap .i64 (.add (.var 1) (.var 2)))) (.ret (.tuple [(.int .i64 (.wrap .i64 (.add (.var 1) (.var 2)))), (.int .i64 (.lit 0))])) (.ret (.tuple [(.int .i64 (.lit 0)), (.int .i64 (.lit 1))]))) (.ret (.tuple [(.int .i64 (.lit 0)), (.int .i64 (.lit 3))]))) (.ret (.tuple [(.int .i64 (.lit 0)), (.int .i64 (.lit 3))]))) (.ret (.tuple [(.int .i64 (.lit 0)), (.int .i64 (.lit 3))])))
theorem do0_eq : callTop Try.prog sum2 60 20 [.str (.lit [43]), .int .i64 (.var 0), .int .i64 (.var 1), .int .i64 (.var 2)] [] = do0T := by kernel_rfl
def do1T : T V := (.node (.fn 11 (.var 0) (.lit 0) (.lit 0)) (.node (.cmp .eql (.fn 11 (.var 0) (.var 1) (.lit 0)) (.var 1)) (.node (.cmp .eql (.fn 11 (.var 0) (.var 2) (.lit 0)) (.var 2)) (.node (.cmp .eql (.fn 11 (.var 0) (.wrap .i64 (.sub (.var 1) (.var 2))) (.lit 0)) (.wrap .i64 (.sub (.var 1) (.var 2)))) (.ret (.tuple [(.int .i64 (.wrap .i64 (.sub (.var 1) (.var 2)))), (.int .i64 (.lit 0))])) (.ret (.tuple [(.int .i64 (.lit 0)), (.int .i64 (.lit 1))]))) (.ret (.tuple [(.int .i64 (.lit 0)), (.int .i64 (.lit 3))]))) (.ret (.tuple [(.int .i64 (.lit 0)), (.int .i64 (.lit 3))]))) (.ret (.tuple [(.int .i64 (.lit 0)), (.int .i64 (.lit 3))])))
theorem do1_eq : callTop Try.prog sum2 60 20 [.str (.lit [45]), .int .i64 (.var 0), .int .i64 (.var 1), .int .i64 (.var 2)] [] = do1T := by kernel_rfl
def do2T : T V := (.node (.fn 11 (.var 0) (.lit 0) (.lit 0)) (.node (.cmp .eql (.fn 11 (.var 0) (.var 1) (.lit 0)) (.var 1)) (.node (.cmp .eql (.fn 11 (.var 0) (.var 2) (.lit 0)) (.var 2)) (.node (.cmp .eql (.fn 11 (.var 0) (.wrap .i64 (.mul (.var 1) (.var 2))) (.lit 0)) (.wrap .i64 (.mul (.var 1) (.var 2)))) (.ret (.tuple [(.int .i64 (.wrap .i64 (.mul (.var 1) (.var 2)))), (.int .i64 (.lit 0))])) (.ret (.tuple [(.int .i64 (.lit 0)), (.int .i64 (.lit 1))]))) (.ret (.tuple [(.int .i64 (.lit 0)), (.int .i64 (.lit 3))]))) (.ret (.tuple [(.int .i64 (.lit 0)), (.int .i64 (.lit 3))]))) (.ret (.tuple [(.int .i64 (.lit 0)), (.int .i64 (.lit 3))])))
theorem do2_eq : callTop Try.prog sum2 60 20 [.str (.lit [42]), .int .i64 (.var 0), .int .i64 (.var 1), .int .i64 (.var 2)] [] = do2T := by kernel_rfl
def do3T : T V := (.node (.fn 11 (.var 0) (.lit 0) (.lit 0)) (.node (.cmp .eql (.fn 11 (.var 0) (.var 1) (.lit 0)) (.var 1)) (.node (.cmp .eql (.fn 11 (.var 0) (.var 2) (.lit 0)) (.var 2)) (.node (.cmp .eql (.var 2) (.lit 0)) (.ret (.tuple [(.int .i64 (.lit 0)), (.int .i64 (.lit 2))])) (.node (.cmp .eql (.fn 11 (.var 0) (.wrap .i64 (.quo (.var 1) (.var 2))) (.lit 0)) (.wrap .i64 (.quo (.var 1) (.var 2)))) (.ret (.tuple [(.int .i64 (.wrap .i64 (.quo (.var 1) (.var 2)))), (.int .i64 (.lit 0))])) (.ret (.tuple [(.int .i64 (.lit 0)), (.int .i64 (.lit 1))])))) (.ret (.tuple [(.int .i64 (.lit 0)), (.int .i64 (.lit 3))]))) (.ret (.tuple [(.int .i64 (.lit 0)), (.int .i64 (.lit 3))]))) (.ret (.tuple [(.int .i64 (.lit 0)), (.int .i64 (.lit 3))])))
theorem do3_eq : callTop Try.prog sum2 60 20 [.str (.lit [47]), .int .i64 (.var 0), .int .i64 (.var 1), .int .i64 (.var 2)] [] = do3T := by kernel_rfl
def do4T : T V := (.node (.fn 11 (.var 0) (.lit 0) (.lit 0)) (.node (.cmp .eql (.fn 11 (.var 0) (.var 1) (.lit 0)) (.var 1)) (.node (.cmp .eql (.fn 11 (.var 0) (.var 2) (.lit 0)) (.var 2)) (.node (.cmp .eql (.var 2) (.lit 0)) (.ret (.tuple [(.int .i64 (.lit 0)), (.int .i64 (.lit 2))])) (.node (.cmp .eql (.fn 11 (.var 0) (.wrap .i64 (.quo (.var 1) (.var 2))) (.lit 0)) (.wrap .i64 (.quo (.var 1) (.var 2)))) (.ret (.tuple [(.int .i64 (.rem (.var 1) (.var 2))), (.int .i64 (.lit 0))])) (.ret (.tuple [(.int .i64 (.lit 0)), (.int .i64 (.lit 1))])))) (.ret (.tuple [(.int .i64 (.lit 0)), (.int .i64 (.lit 3))]))) (.ret (.tuple [(.int .i64 (.lit 0)), (.int .i64 (.lit 3))]))) (.ret (.tuple [(.int .i64 (.lit 0)), (.int .i64 (.lit 3))])))
theorem do4_eq : callTop Try.prog sum2 60 20 [.str (.lit [37]), .int .i64 (.var 0), .int .i64 (.var 1), .int .i64 (.var 2)] [] = do4T := by kernel_rfl
def do5T : T V := (.node (.fn 11 (.var 0) (.lit 0) (.lit 0)) (.node (.cmp .eql (.fn 11 (.var 0) (.var 1) (.lit 0)) (.var 1)) (.node (.cmp .eql (.fn 11 (.var 0) (.var 2) (.lit 0)) (.var 2)) (.ret (.tuple [(.int .i64 (.bits .and .i64 (.var 1) (.var 2))), (.int .i64 (.lit 0))])) (.ret (.tuple [(.int .i64 (.lit 0)), (.int .i64 (.lit 3))]))) (.ret (.tuple [(.int .i64 (.lit 0)), (.int .i64 (.lit 3))]))) (.ret (.tuple [(.int .i64 (.lit 0)), (.int .i64 (.lit 3))])))
theorem do5_eq : callTop Try.prog sum2 60 20 [.str (.lit [38]), .int .i64 (.var 0), .int .i64 (.var 1), .int .i64 (.var 2)] [] = do5T := by kernel_rfl
def do6T : T V := (.node (.fn 11 (.var 0) (.lit 0) (.lit 0)) (.node (.cmp .eql (.fn 11 (.var 0) (.var 1) (.lit 0)) (.var 1)) (.node (.cmp .eql (.fn 11 (.var 0) (.var 2) (.lit 0)) (.var 2)) (.ret (.tuple [(.int .i64 (.bits .or .i64 (.var 1) (.var 2))), (.int .i64 (.lit 0))])) (.ret (.tuple [(.int .i64 (.lit 0)), (.int .i64 (.lit 3))]))) (.ret (.tuple [(.int .i64 (.lit 0)), (.int .i64 (.lit 3))]))) (.ret (.tuple [(.int .i64 (.lit 0)), (.int .i64 (.lit 3))])))
theorem do6_eq : callTop Try.prog sum2 60 20 [.str (.lit [124]), .int .i64 (.var 0), .int .i64 (.var 1), .int .i64 (.var 2)] [] = do6T := by kernel_rfl
def do7T : T V := (.node (.fn 11 (.var 0) (.lit 0) (.lit 0)) (.node (.cmp .eql (.fn 11 (.var 0) (.var 1) (.lit 0)) (.var 1)) (.node (.cmp .eql (.fn 11 (.var 0) (.var 2) (.lit 0)) (.var 2)) (.ret (.tuple [(.int .i64 (.bits .xor .i64 (.var 1) (.var 2))), (.int .i64 (.lit 0))])) (.ret (.tuple [(.int .i64 (.lit 0)), (.int .i64 (.lit 3))]))) (.ret (.tuple [(.int .i64 (.lit 0)), (.int .i64 (.lit 3))]))) (.ret (.tuple [(.int .i64 (.lit 0)), (.int .i64 (.lit 3))])))
theorem do7_eq : callTop Try.prog sum2 60 20 [.str (.lit [94]), .int .i64 (.var 0), .int .i64 (.var 1), .int .i64 (.var 2)] [] = do7T := by kernel_rfl
def do8T : T V := (.node (.fn 11 (.var 0) (.lit 0) (.lit 0)) (.node (.cmp .eql (.fn 11 (.var 0) (.var 1) (.lit 0)) (.var 1)) (.node (.cmp .lss (.var 2) (.lit 0)) (.ret (.tuple [(.int .i64 (.lit 0)), (.int .i64 (.lit 1))])) (.node (.cmp .geq (.var 2) (.fn 10 (.var 0) (.lit 0) (.lit 0))) (.ret (.tuple [(.int .i64 (.lit 0)), (.int .i64 (.lit 1))])) (.ret (.tuple [(.int .i64 (.fn 11 (.var 0) (.shl .i64 (.var 1) (.var 2)) (.lit 0))), (.int .i64 (.lit 0))])))) (.ret (.tuple [(.int .i64 (.lit 0)), (.int .i64 (.lit 3))]))) (.ret (.tuple [(.int .i64 (.lit 0)), (.int .i64 (.lit 3))])))
theorem do8_eq : callTop Try.prog sum2 60 20 [.str (.lit [60, 60]), .int .i64 (.var 0), .int .i64 (.var 1), .int .i64 (.var 2)] [] = do8T := by kernel_rfl
def do9T : T V := (.node (.fn 11 (.var 0) (.lit 0) (.lit 0)) (.node (.cmp .eql (.fn 11 (.var 0) (.var 1) (.lit 0)) (.var 1)) (.node (.cmp .lss (.var 2) (.lit 0)) (.ret (.tuple [(.int .i64 (.lit 0)), (.int .i64 (.lit 1))])) (.node (.cmp .geq (.var 2) (.fn 10 (.var 0) (.lit 0) (.lit 0))) (.ret (.tuple [(.int .i64 (.lit 0)), (.int .i64 (.lit 1))])) (.ret (.tuple [(.int .i64 (.shr .i64 (.var 1) (.var 2))), (.int .i64 (.lit 0))])))) (.ret (.tuple [(.int .i64 (.lit 0)), (.int .i64 (.lit 3))]))) (.ret (.tuple [(.int .i64 (.lit 0)), (.int .i64 (.lit 3))])))
theorem do9_eq : callTop Try.prog sum2 60 20 [.str (.lit [62, 62]), .int .i64 (.var 0), .int .i64 (.var 1), .int .i64 (.var 2)] [] = do9T := by kernel_rfl
def do10T : T V := (.node (.fn 11 (.var 0) (.lit 0) (.lit 0)) (.node (.cmp .eql (.fn 11 (.var 0) (.var 1) (.lit 0)) (.var 1)) (.node (.cmp .eql (.fn 11 (.var 0) (.var 2) (.lit 0)) (.var 2)) (.ret (.tuple [(.int .i64 (.lit 0)), (.int .i64 (.lit 3))])) (.ret (.tuple [(.int .i64 (.lit 0)), (.int .i64 (.lit 3))]))) (.ret (.tuple [(.int .i64 (.lit 0)), (.int .i64 (.lit 3))]))) (.ret (.tuple [(.int .i64 (.lit 0)), (.int .i64 (.lit 3))])))
theorem do10_eq : callTop Try.prog sum2 60 20 [.str (.var 0), .int .i64 (.var 0), .int .i64 (.var 1), .int .i64 (.var 2)] otherSigns = do10T := by kernel_rfl
theorem do_calls (s : ByteArray) (k a b : Int) (W : World) : Calls Try.prog 20 #[.string s, .int .i64 k, .int .i64 a, .int .i64 b] W fun e W' => e = .returned (.tuple #[.int .i64 (sgV (sgC s) k a b), .int .i64 (sgF (sgC s) k a b)]) ∧ Below W.heap.size W W' := by
  rcases sgC_cases s with rfl | rfl | rfl | rfl | rfl | rfl | rfl | rfl | rfl | rfl | ⟨hc, ho⟩
  · refine contract (η := { i := fun n => if n = 0 then k else if n = 1 then a else b, s := fun _ => ⟨([43] : List UInt8).toArray⟩, fi := kF, fb := kG }) (plain_of (by kernel_rfl)) (by kernel_rfl) (sum2_ok _ rfl rfl) (n := 60) (args := [.str (.lit [43]), .int .i64 (.var 0), .int .i64 (.var 1), .int .i64 (.var 2)]) (args' := [.string ⟨([43] : List UInt8).toArray⟩, .int .i64 k, .int .i64 a, .int .i64 b]) (.cons _ _ _ _ (.str _) (.cons _ _ _ _ (.int _ _) (.cons _ _ _ _ (.int _ _) (.cons _ _ _ _ (.int _ _) .nil)))) facts_none ?_ W
    rw [do0_eq]
    rw [show sgC ⟨([43] : List UInt8).toArray⟩ = 0 from by simp [sgC]]
    simp only [do0T, T.gives, V.val, V.vals, B.prop, E.den, propI, kF10, kF11, kF12, kF13, kG10, kG11, Option.map_some, Option.some.injEq, Value.tuple.injEq, sgV, sgF, fitV, fitF, ok]
    repeat' first | apply And.intro | intro _
    all_goals (try simp_all)
    all_goals (try (refine ⟨?_, ?_⟩ <;> (repeat' split) <;> first | rfl | omega))
  · refine contract (η := { i := fun n => if n = 0 then k else if n = 1 then a else b, s := fun _ => ⟨([45] : List UInt8).toArray⟩, fi := kF, fb := kG }) (plain_of (by kernel_rfl)) (by kernel_rfl) (sum2_ok _ rfl rfl) (n := 60) (args := [.str (.lit [45]), .int .i64 (.var 0), .int .i64 (.var 1), .int .i64 (.var 2)]) (args' := [.string ⟨([45] : List UInt8).toArray⟩, .int .i64 k, .int .i64 a, .int .i64 b]) (.cons _ _ _ _ (.str _) (.cons _ _ _ _ (.int _ _) (.cons _ _ _ _ (.int _ _) (.cons _ _ _ _ (.int _ _) .nil)))) facts_none ?_ W
    rw [do1_eq]
    rw [show sgC ⟨([45] : List UInt8).toArray⟩ = 1 from by simp [sgC]]
    simp only [do1T, T.gives, V.val, V.vals, B.prop, E.den, propI, kF10, kF11, kF12, kF13, kG10, kG11, Option.map_some, Option.some.injEq, Value.tuple.injEq, sgV, sgF, fitV, fitF, ok]
    repeat' first | apply And.intro | intro _
    all_goals (try simp_all)
    all_goals (try (refine ⟨?_, ?_⟩ <;> (repeat' split) <;> first | rfl | omega))
  · refine contract (η := { i := fun n => if n = 0 then k else if n = 1 then a else b, s := fun _ => ⟨([42] : List UInt8).toArray⟩, fi := kF, fb := kG }) (plain_of (by kernel_rfl)) (by kernel_rfl) (sum2_ok _ rfl rfl) (n := 60) (args := [.str (.lit [42]), .int .i64 (.var 0), .int .i64 (.var 1), .int .i64 (.var 2)]) (args' := [.string ⟨([42] : List UInt8).toArray⟩, .int .i64 k, .int .i64 a, .int .i64 b]) (.cons _ _ _ _ (.str _) (.cons _ _ _ _ (.int _ _) (.cons _ _ _ _ (.int _ _) (.cons _ _ _ _ (.int _ _) .nil)))) facts_none ?_ W
    rw [do2_eq]
    rw [show sgC ⟨([42] : List UInt8).toArray⟩ = 2 from by simp [sgC]]
    simp only [do2T, T.gives, V.val, V.vals, B.prop, E.den, propI, kF10, kF11, kF12, kF13, kG10, kG11, Option.map_some, Option.some.injEq, Value.tuple.injEq, sgV, sgF, fitV, fitF, ok]
    repeat' first | apply And.intro | intro _
    all_goals (try simp_all)
    all_goals (try (refine ⟨?_, ?_⟩ <;> (repeat' split) <;> first | rfl | omega))
  · refine contract (η := { i := fun n => if n = 0 then k else if n = 1 then a else b, s := fun _ => ⟨([47] : List UInt8).toArray⟩, fi := kF, fb := kG }) (plain_of (by kernel_rfl)) (by kernel_rfl) (sum2_ok _ rfl rfl) (n := 60) (args := [.str (.lit [47]), .int .i64 (.var 0), .int .i64 (.var 1), .int .i64 (.var 2)]) (args' := [.string ⟨([47] : List UInt8).toArray⟩, .int .i64 k, .int .i64 a, .int .i64 b]) (.cons _ _ _ _ (.str _) (.cons _ _ _ _ (.int _ _) (.cons _ _ _ _ (.int _ _) (.cons _ _ _ _ (.int _ _) .nil)))) facts_none ?_ W
    rw [do3_eq]
    rw [show sgC ⟨([47] : List UInt8).toArray⟩ = 3 from by simp [sgC]]
    simp only [do3T, T.gives, V.val, V.vals, B.prop, E.den, propI, kF10, kF11, kF12, kF13, kG10, kG11, Option.map_some, Option.some.injEq, Value.tuple.injEq, sgV, sgF, fitV, fitF, ok]
    repeat' first | apply And.intro | intro _
    all_goals (try simp_all)
    all_goals (try (refine ⟨?_, ?_⟩ <;> (repeat' split) <;> first | rfl | omega))
  · refine contract (η := { i := fun n => if n = 0 then k else if n = 1 then a else b, s := fun _ => ⟨([37] : List UInt8).toArray⟩, fi := kF, fb := kG }) (plain_of (by kernel_rfl)) (by kernel_rfl) (sum2_ok _ rfl rfl) (n := 60) (args := [.str (.lit [37]), .int .i64 (.var 0), .int .i64 (.var 1), .int .i64 (.var 2)]) (args' := [.string ⟨([37] : List UInt8).toArray⟩, .int .i64 k, .int .i64 a, .int .i64 b]) (.cons _ _ _ _ (.str _) (.cons _ _ _ _ (.int _ _) (.cons _ _ _ _ (.int _ _) (.cons _ _ _ _ (.int _ _) .nil)))) facts_none ?_ W
    rw [do4_eq]
    rw [show sgC ⟨([37] : List UInt8).toArray⟩ = 4 from by simp [sgC]]
    simp only [do4T, T.gives, V.val, V.vals, B.prop, E.den, propI, kF10, kF11, kF12, kF13, kG10, kG11, Option.map_some, Option.some.injEq, Value.tuple.injEq, sgV, sgF, fitV, fitF, ok]
    repeat' first | apply And.intro | intro _
    all_goals (try simp_all)
    all_goals (try (refine ⟨?_, ?_⟩ <;> (repeat' split) <;> first | rfl | omega))
  · refine contract (η := { i := fun n => if n = 0 then k else if n = 1 then a else b, s := fun _ => ⟨([38] : List UInt8).toArray⟩, fi := kF, fb := kG }) (plain_of (by kernel_rfl)) (by kernel_rfl) (sum2_ok _ rfl rfl) (n := 60) (args := [.str (.lit [38]), .int .i64 (.var 0), .int .i64 (.var 1), .int .i64 (.var 2)]) (args' := [.string ⟨([38] : List UInt8).toArray⟩, .int .i64 k, .int .i64 a, .int .i64 b]) (.cons _ _ _ _ (.str _) (.cons _ _ _ _ (.int _ _) (.cons _ _ _ _ (.int _ _) (.cons _ _ _ _ (.int _ _) .nil)))) facts_none ?_ W
    rw [do5_eq]
    rw [show sgC ⟨([38] : List UInt8).toArray⟩ = 5 from by simp [sgC]]
    simp only [do5T, T.gives, V.val, V.vals, B.prop, E.den, propI, kF10, kF11, kF12, kF13, kG10, kG11, Option.map_some, Option.some.injEq, Value.tuple.injEq, sgV, sgF, fitV, fitF, ok]
    repeat' first | apply And.intro | intro _
    all_goals (try simp_all)
    all_goals (try (refine ⟨?_, ?_⟩ <;> (repeat' split) <;> first | rfl | omega))
  · refine contract (η := { i := fun n => if n = 0 then k else if n = 1 then a else b, s := fun _ => ⟨([124] : List UInt8).toArray⟩, fi := kF, fb := kG }) (plain_of (by kernel_rfl)) (by kernel_rfl) (sum2_ok _ rfl rfl) (n := 60) (args := [.str (.lit [124]), .int .i64 (.var 0), .int .i64 (.var 1), .int .i64 (.var 2)]) (args' := [.string ⟨([124] : List UInt8).toArray⟩, .int .i64 k, .int .i64 a, .int .i64 b]) (.cons _ _ _ _ (.str _) (.cons _ _ _ _ (.int _ _) (.cons _ _ _ _ (.int _ _) (.cons _ _ _ _ (.int _ _) .nil)))) facts_none ?_ W
    rw [do6_eq]
    rw [show sgC ⟨([124] : List UInt8).toArray⟩ = 6 from by simp [sgC]]
    simp only [do6T, T.gives, V.val, V.vals, B.prop, E.den, propI, kF10, kF11, kF12, kF13, kG10, kG11, Option.map_some, Option.some.injEq, Value.tuple.injEq, sgV, sgF, fitV, fitF, ok]
    repeat' first | apply And.intro | intro _
    all_goals (try simp_all)
    all_goals (try (refine ⟨?_, ?_⟩ <;> (repeat' split) <;> first | rfl | omega))
  · refine contract (η := { i := fun n => if n = 0 then k else if n = 1 then a else b, s := fun _ => ⟨([94] : List UInt8).toArray⟩, fi := kF, fb := kG }) (plain_of (by kernel_rfl)) (by kernel_rfl) (sum2_ok _ rfl rfl) (n := 60) (args := [.str (.lit [94]), .int .i64 (.var 0), .int .i64 (.var 1), .int .i64 (.var 2)]) (args' := [.string ⟨([94] : List UInt8).toArray⟩, .int .i64 k, .int .i64 a, .int .i64 b]) (.cons _ _ _ _ (.str _) (.cons _ _ _ _ (.int _ _) (.cons _ _ _ _ (.int _ _) (.cons _ _ _ _ (.int _ _) .nil)))) facts_none ?_ W
    rw [do7_eq]
    rw [show sgC ⟨([94] : List UInt8).toArray⟩ = 7 from by simp [sgC]]
    simp only [do7T, T.gives, V.val, V.vals, B.prop, E.den, propI, kF10, kF11, kF12, kF13, kG10, kG11, Option.map_some, Option.some.injEq, Value.tuple.injEq, sgV, sgF, fitV, fitF, ok]
    repeat' first | apply And.intro | intro _
    all_goals (try simp_all)
    all_goals (try (refine ⟨?_, ?_⟩ <;> (repeat' split) <;> first | rfl | omega))
  · refine contract (η := { i := fun n => if n = 0 then k else if n = 1 then a else b, s := fun _ => ⟨([60, 60] : List UInt8).toArray⟩, fi := kF, fb := kG }) (plain_of (by kernel_rfl)) (by kernel_rfl) (sum2_ok _ rfl rfl) (n := 60) (args := [.str (.lit [60, 60]), .int .i64 (.var 0), .int .i64 (.var 1), .int .i64 (.var 2)]) (args' := [.string ⟨([60, 60] : List UInt8).toArray⟩, .int .i64 k, .int .i64 a, .int .i64 b]) (.cons _ _ _ _ (.str _) (.cons _ _ _ _ (.int _ _) (.cons _ _ _ _ (.int _ _) (.cons _ _ _ _ (.int _ _) .nil)))) facts_none ?_ W
    rw [do8_eq]
    rw [show sgC ⟨([60, 60] : List UInt8).toArray⟩ = 8 from by simp [sgC]]
    simp only [do8T, T.gives, V.val, V.vals, B.prop, E.den, propI, kF10, kF11, kF12, kF13, kG10, kG11, Option.map_some, Option.some.injEq, Value.tuple.injEq, sgV, sgF, fitV, fitF, ok]
    repeat' first | apply And.intro | intro _
    all_goals (try simp_all)
    all_goals (try (refine ⟨?_, ?_⟩ <;> (repeat' split) <;> first | rfl | omega))
  · refine contract (η := { i := fun n => if n = 0 then k else if n = 1 then a else b, s := fun _ => ⟨([62, 62] : List UInt8).toArray⟩, fi := kF, fb := kG }) (plain_of (by kernel_rfl)) (by kernel_rfl) (sum2_ok _ rfl rfl) (n := 60) (args := [.str (.lit [62, 62]), .int .i64 (.var 0), .int .i64 (.var 1), .int .i64 (.var 2)]) (args' := [.string ⟨([62, 62] : List UInt8).toArray⟩, .int .i64 k, .int .i64 a, .int .i64 b]) (.cons _ _ _ _ (.str _) (.cons _ _ _ _ (.int _ _) (.cons _ _ _ _ (.int _ _) (.cons _ _ _ _ (.int _ _) .nil)))) facts_none ?_ W
    rw [do9_eq]
    rw [show sgC ⟨([62, 62] : List UInt8).toArray⟩ = 9 from by simp [sgC]]
    simp only [do9T, T.gives, V.val, V.vals, B.prop, E.den, propI, kF10, kF11, kF12, kF13, kG10, kG11, Option.map_some, Option.some.injEq, Value.tuple.injEq, sgV, sgF, fitV, fitF, ok]
    repeat' first | apply And.intro | intro _
    all_goals (try simp_all)
    all_goals (try (refine ⟨?_, ?_⟩ <;> (repeat' split) <;> first | rfl | omega))
  · refine contract (η := { i := fun n => if n = 0 then k else if n = 1 then a else b, s := fun _ => s, fi := kF, fb := kG }) (plain_of (by kernel_rfl)) (by kernel_rfl) (sum2_ok _ rfl rfl) (n := 60) (args := [.str (.var 0), .int .i64 (.var 0), .int .i64 (.var 1), .int .i64 (.var 2)]) (args' := [.string s, .int .i64 k, .int .i64 a, .int .i64 b]) (.cons _ _ _ _ (.str _) (.cons _ _ _ _ (.int _ _) (.cons _ _ _ _ (.int _ _) (.cons _ _ _ _ (.int _ _) .nil)))) (fun p hp => ho p hp _ rfl) ?_ W
    rw [do10_eq]
    rw [hc]
    simp only [do10T, T.gives, V.val, V.vals, B.prop, E.den, propI, kF10, kF11, kF12, kF13, kG10, kG11, Option.map_some, Option.some.injEq, Value.tuple.injEq, sgV, sgF, fitV, fitF, ok]
    repeat' first | apply And.intro | intro _
    all_goals (try simp_all)
    all_goals (try (refine ⟨?_, ?_⟩ <;> (repeat' split) <;> first | rfl | omega))
end Go.Proofs.Ytfkhlmmapopacaa.Sx
