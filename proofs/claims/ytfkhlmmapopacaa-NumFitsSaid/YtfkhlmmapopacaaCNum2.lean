/- Kinds of numbers: ranges and wrapping, by both. -/
import Derived.Test.YtfkhlmmapopacaaProg
import Derived.Test.YtfkhlmmapopacaaSxSum
import Derived.Test.YtfkhlmmapopacaaCNumL
namespace Go.Proofs.Ytfkhlmmapopacaa.Sx
open Go Go.RowKit
set_option linter.unusedVariables false
set_option linter.unusedSimpArgs false
set_option maxRecDepth 100000
def range3T : T V := (.ret (.tuple [(.int .i64 (.lit (-128))), (.int .i64 (.lit 127))]))
theorem range3_eq : callTop Try.prog sumL 60 13 [.int .i64 (.lit 3)] [] = range3T := by kernel_rfl
def range4T : T V := (.ret (.tuple [(.int .i64 (.lit (-32768))), (.int .i64 (.lit 32767))]))
theorem range4_eq : callTop Try.prog sumL 60 13 [.int .i64 (.lit 4)] [] = range4T := by kernel_rfl
def range5T : T V := (.ret (.tuple [(.int .i64 (.lit (-2147483648))), (.int .i64 (.lit 2147483647))]))
theorem range5_eq : callTop Try.prog sumL 60 13 [.int .i64 (.lit 5)] [] = range5T := by kernel_rfl
def range6T : T V := (.ret (.tuple [(.int .i64 (.lit 0)), (.int .i64 (.lit 255))]))
theorem range6_eq : callTop Try.prog sumL 60 13 [.int .i64 (.lit 6)] [] = range6T := by kernel_rfl
def range7T : T V := (.ret (.tuple [(.int .i64 (.lit 0)), (.int .i64 (.lit 65535))]))
theorem range7_eq : callTop Try.prog sumL 60 13 [.int .i64 (.lit 7)] [] = range7T := by kernel_rfl
def range8T : T V := (.ret (.tuple [(.int .i64 (.lit 0)), (.int .i64 (.lit 4294967295))]))
theorem range8_eq : callTop Try.prog sumL 60 13 [.int .i64 (.lit 8)] [] = range8T := by kernel_rfl
def rangeT : T V := (.node (.and (.cmp .eql (.fn 10 (.var 0) (.lit 0) (.lit 0)) (.lit 0)) (.not (.fn 10 (.var 0) (.lit 0) (.lit 0)))) (.ret (.tuple [(.int .i64 (.lit 0)), (.int .i64 (.lit 0))])) (.node (.fn 10 (.var 0) (.lit 0) (.lit 0)) (.node (.cmp .lss (.wrap .i64 (.sub (.fn 10 (.var 0) (.lit 0) (.lit 0)) (.lit 1))) (.lit 0)) (.fail 22) (.ret (.tuple [(.int .i64 (.shl .i64 (.lit (-1)) (.wrap .i64 (.sub (.fn 10 (.var 0) (.lit 0) (.lit 0)) (.lit 1))))), (.int .i64 (.wrap .i64 (.sub (.shl .i64 (.lit 1) (.wrap .i64 (.sub (.fn 10 (.var 0) (.lit 0) (.lit 0)) (.lit 1)))) (.lit 1))))]))) (.node (.cmp .lss (.fn 10 (.var 0) (.lit 0) (.lit 0)) (.lit 0)) (.fail 22) (.ret (.tuple [(.int .i64 (.lit 0)), (.int .i64 (.wrap .i64 (.sub (.shl .i64 (.lit 1) (.fn 10 (.var 0) (.lit 0) (.lit 0))) (.lit 1))))])))))
theorem range_eq : callTop Try.prog sum1 60 13 [.int .i64 (.var 0)] [] = rangeT := by kernel_rfl
theorem range_calls (k : Int) (W : World) : Calls Try.prog 13 #[.int .i64 k] W fun e W' => e = .returned (.tuple #[.int .i64 (kLo k), .int .i64 (kHi k)]) ∧ Below W.heap.size W W' := by
  rcases kinds7 k with rfl | rfl | rfl | rfl | rfl | rfl | hk
  · refine contract (η := { fi := kF, fb := kG }) (plain_of (by kernel_rfl)) (by kernel_rfl) (sumL_ok _ rfl rfl) (n := 60) (args := [.int .i64 (.lit 3)]) (args' := [.int .i64 3]) (.cons _ _ _ _ (.int _ _) .nil) facts_none ?_ W
    rw [range3_eq]
    rfl
  · refine contract (η := { fi := kF, fb := kG }) (plain_of (by kernel_rfl)) (by kernel_rfl) (sumL_ok _ rfl rfl) (n := 60) (args := [.int .i64 (.lit 4)]) (args' := [.int .i64 4]) (.cons _ _ _ _ (.int _ _) .nil) facts_none ?_ W
    rw [range4_eq]
    rfl
  · refine contract (η := { fi := kF, fb := kG }) (plain_of (by kernel_rfl)) (by kernel_rfl) (sumL_ok _ rfl rfl) (n := 60) (args := [.int .i64 (.lit 5)]) (args' := [.int .i64 5]) (.cons _ _ _ _ (.int _ _) .nil) facts_none ?_ W
    rw [range5_eq]
    rfl
  · refine contract (η := { fi := kF, fb := kG }) (plain_of (by kernel_rfl)) (by kernel_rfl) (sumL_ok _ rfl rfl) (n := 60) (args := [.int .i64 (.lit 6)]) (args' := [.int .i64 6]) (.cons _ _ _ _ (.int _ _) .nil) facts_none ?_ W
    rw [range6_eq]
    rfl
  · refine contract (η := { fi := kF, fb := kG }) (plain_of (by kernel_rfl)) (by kernel_rfl) (sumL_ok _ rfl rfl) (n := 60) (args := [.int .i64 (.lit 7)]) (args' := [.int .i64 7]) (.cons _ _ _ _ (.int _ _) .nil) facts_none ?_ W
    rw [range7_eq]
    rfl
  · refine contract (η := { fi := kF, fb := kG }) (plain_of (by kernel_rfl)) (by kernel_rfl) (sumL_ok _ rfl rfl) (n := 60) (args := [.int .i64 (.lit 8)]) (args' := [.int .i64 8]) (.cons _ _ _ _ (.int _ _) .nil) facts_none ?_ W
    rw [range8_eq]
    rfl
  · refine contract (η := { i := fun _ => k, fi := kF, fb := kG }) (plain_of (by kernel_rfl)) (by kernel_rfl) (sum1_ok _ rfl rfl) (n := 60) (args := [.int .i64 (.var 0)]) (args' := [.int .i64 k]) (.cons _ _ _ _ (.int _ _) .nil) facts_none ?_ W
    rw [range_eq]
    obtain ⟨h3, h4, h5, h6, h7, h8⟩ := hk
    simp only [rangeT, T.gives, V.val, V.vals, B.den, B.prop, E.den, propI, cmpI, kF10, kG10, kB, kS, kW, kLo, kHi, kI, h3, h4, h5, h6, h7, h8, if_false, if_true, Option.map_some, Option.some.injEq, reduceCtorEq, not_true_eq_false, not_false_eq_true, and_self, false_and, implies_true, true_implies, forall_const]
    repeat' first | apply And.intro | intro _
    all_goals first | rfl | trivial | omega | exact congrArg Value.bool (decide_eq_false (by omega)) | (simp_all; done) | (simp_all; omega) | (simp; omega)
def rrange3T : T V := (.ret (.tuple [(.int .i64 (.lit (-128))), (.int .i64 (.lit 127))]))
theorem rrange3_eq : callTop Try.prog sumL 60 14 [.int .i64 (.lit 3)] [] = rrange3T := by kernel_rfl
def rrange4T : T V := (.ret (.tuple [(.int .i64 (.lit (-32768))), (.int .i64 (.lit 32767))]))
theorem rrange4_eq : callTop Try.prog sumL 60 14 [.int .i64 (.lit 4)] [] = rrange4T := by kernel_rfl
def rrange5T : T V := (.ret (.tuple [(.int .i64 (.lit (-2147483648))), (.int .i64 (.lit 2147483647))]))
theorem rrange5_eq : callTop Try.prog sumL 60 14 [.int .i64 (.lit 5)] [] = rrange5T := by kernel_rfl
def rrange6T : T V := (.ret (.tuple [(.int .i64 (.lit 0)), (.int .i64 (.lit 255))]))
theorem rrange6_eq : callTop Try.prog sumL 60 14 [.int .i64 (.lit 6)] [] = rrange6T := by kernel_rfl
def rrange7T : T V := (.ret (.tuple [(.int .i64 (.lit 0)), (.int .i64 (.lit 65535))]))
theorem rrange7_eq : callTop Try.prog sumL 60 14 [.int .i64 (.lit 7)] [] = rrange7T := by kernel_rfl
def rrange8T : T V := (.ret (.tuple [(.int .i64 (.lit 0)), (.int .i64 (.lit 4294967295))]))
theorem rrange8_eq : callTop Try.prog sumL 60 14 [.int .i64 (.lit 8)] [] = rrange8T := by kernel_rfl
def rrangeT : T V := (.node (.cmp .eql (.fn 10 (.var 0) (.lit 0) (.lit 0)) (.lit 0)) (.ret (.tuple [(.int .i64 (.lit 0)), (.int .i64 (.lit 0))])) (.node (.fn 10 (.var 0) (.lit 0) (.lit 0)) (.node (.cmp .lss (.wrap .u64 (.wrap .i64 (.sub (.fn 10 (.var 0) (.lit 0) (.lit 0)) (.lit 1)))) (.lit 0)) (.fail 22) (.ret (.tuple [(.int .i64 (.wrap .i64 (.sub (.lit 0) (.shl .i64 (.lit 1) (.wrap .u64 (.wrap .i64 (.sub (.fn 10 (.var 0) (.lit 0) (.lit 0)) (.lit 1)))))))), (.int .i64 (.wrap .i64 (.sub (.shl .i64 (.lit 1) (.wrap .u64 (.wrap .i64 (.sub (.fn 10 (.var 0) (.lit 0) (.lit 0)) (.lit 1))))) (.lit 1))))]))) (.node (.cmp .lss (.wrap .u64 (.fn 10 (.var 0) (.lit 0) (.lit 0))) (.lit 0)) (.fail 22) (.ret (.tuple [(.int .i64 (.lit 0)), (.int .i64 (.wrap .i64 (.sub (.shl .i64 (.lit 1) (.wrap .u64 (.fn 10 (.var 0) (.lit 0) (.lit 0)))) (.lit 1))))])))))
theorem rrange_eq : callTop Try.prog sum1 60 14 [.int .i64 (.var 0)] [] = rrangeT := by kernel_rfl
theorem rrange_calls (k : Int) (W : World) : Calls Try.prog 14 #[.int .i64 k] W fun e W' => e = .returned (.tuple #[.int .i64 (kLo k), .int .i64 (kHi k)]) ∧ Below W.heap.size W W' := by
  rcases kinds7 k with rfl | rfl | rfl | rfl | rfl | rfl | hk
  · refine contract (η := { fi := kF, fb := kG }) (plain_of (by kernel_rfl)) (by kernel_rfl) (sumL_ok _ rfl rfl) (n := 60) (args := [.int .i64 (.lit 3)]) (args' := [.int .i64 3]) (.cons _ _ _ _ (.int _ _) .nil) facts_none ?_ W
    rw [rrange3_eq]
    rfl
  · refine contract (η := { fi := kF, fb := kG }) (plain_of (by kernel_rfl)) (by kernel_rfl) (sumL_ok _ rfl rfl) (n := 60) (args := [.int .i64 (.lit 4)]) (args' := [.int .i64 4]) (.cons _ _ _ _ (.int _ _) .nil) facts_none ?_ W
    rw [rrange4_eq]
    rfl
  · refine contract (η := { fi := kF, fb := kG }) (plain_of (by kernel_rfl)) (by kernel_rfl) (sumL_ok _ rfl rfl) (n := 60) (args := [.int .i64 (.lit 5)]) (args' := [.int .i64 5]) (.cons _ _ _ _ (.int _ _) .nil) facts_none ?_ W
    rw [rrange5_eq]
    rfl
  · refine contract (η := { fi := kF, fb := kG }) (plain_of (by kernel_rfl)) (by kernel_rfl) (sumL_ok _ rfl rfl) (n := 60) (args := [.int .i64 (.lit 6)]) (args' := [.int .i64 6]) (.cons _ _ _ _ (.int _ _) .nil) facts_none ?_ W
    rw [rrange6_eq]
    rfl
  · refine contract (η := { fi := kF, fb := kG }) (plain_of (by kernel_rfl)) (by kernel_rfl) (sumL_ok _ rfl rfl) (n := 60) (args := [.int .i64 (.lit 7)]) (args' := [.int .i64 7]) (.cons _ _ _ _ (.int _ _) .nil) facts_none ?_ W
    rw [rrange7_eq]
    rfl
  · refine contract (η := { fi := kF, fb := kG }) (plain_of (by kernel_rfl)) (by kernel_rfl) (sumL_ok _ rfl rfl) (n := 60) (args := [.int .i64 (.lit 8)]) (args' := [.int .i64 8]) (.cons _ _ _ _ (.int _ _) .nil) facts_none ?_ W
    rw [rrange8_eq]
    rfl
  · refine contract (η := { i := fun _ => k, fi := kF, fb := kG }) (plain_of (by kernel_rfl)) (by kernel_rfl) (sum1_ok _ rfl rfl) (n := 60) (args := [.int .i64 (.var 0)]) (args' := [.int .i64 k]) (.cons _ _ _ _ (.int _ _) .nil) facts_none ?_ W
    rw [rrange_eq]
    obtain ⟨h3, h4, h5, h6, h7, h8⟩ := hk
    simp only [rrangeT, T.gives, V.val, V.vals, B.den, B.prop, E.den, propI, cmpI, kF10, kG10, kB, kS, kW, kLo, kHi, kI, h3, h4, h5, h6, h7, h8, if_false, if_true, Option.map_some, Option.some.injEq, reduceCtorEq, not_true_eq_false, not_false_eq_true, and_self, false_and, implies_true, true_implies, forall_const]
    repeat' first | apply And.intro | intro _
    all_goals first | rfl | trivial | omega | exact congrArg Value.bool (decide_eq_false (by omega)) | (simp_all; done) | (simp_all; omega) | (simp; omega)
def int3T : T V := (.ret (.bool (.lit true)))
theorem int3_eq : callTop Try.prog sumL 60 15 [.int .i64 (.lit 3)] [] = int3T := by kernel_rfl
def int4T : T V := (.ret (.bool (.lit true)))
theorem int4_eq : callTop Try.prog sumL 60 15 [.int .i64 (.lit 4)] [] = int4T := by kernel_rfl
def int5T : T V := (.ret (.bool (.lit true)))
theorem int5_eq : callTop Try.prog sumL 60 15 [.int .i64 (.lit 5)] [] = int5T := by kernel_rfl
def int6T : T V := (.ret (.bool (.lit true)))
theorem int6_eq : callTop Try.prog sumL 60 15 [.int .i64 (.lit 6)] [] = int6T := by kernel_rfl
def int7T : T V := (.ret (.bool (.lit true)))
theorem int7_eq : callTop Try.prog sumL 60 15 [.int .i64 (.lit 7)] [] = int7T := by kernel_rfl
def int8T : T V := (.ret (.bool (.lit true)))
theorem int8_eq : callTop Try.prog sumL 60 15 [.int .i64 (.lit 8)] [] = int8T := by kernel_rfl
def intT : T V := (.ret (.bool (.not (.and (.cmp .eql (.fn 10 (.var 0) (.lit 0) (.lit 0)) (.lit 0)) (.not (.fn 10 (.var 0) (.lit 0) (.lit 0)))))))
theorem int_eq : callTop Try.prog sum1 60 15 [.int .i64 (.var 0)] [] = intT := by kernel_rfl
theorem int_calls (k : Int) (W : World) : Calls Try.prog 15 #[.int .i64 k] W fun e W' => e = .returned (.bool (kI k)) ∧ Below W.heap.size W W' := by
  rcases kinds7 k with rfl | rfl | rfl | rfl | rfl | rfl | hk
  · refine contract (η := { fi := kF, fb := kG }) (plain_of (by kernel_rfl)) (by kernel_rfl) (sumL_ok _ rfl rfl) (n := 60) (args := [.int .i64 (.lit 3)]) (args' := [.int .i64 3]) (.cons _ _ _ _ (.int _ _) .nil) facts_none ?_ W
    rw [int3_eq]
    rfl
  · refine contract (η := { fi := kF, fb := kG }) (plain_of (by kernel_rfl)) (by kernel_rfl) (sumL_ok _ rfl rfl) (n := 60) (args := [.int .i64 (.lit 4)]) (args' := [.int .i64 4]) (.cons _ _ _ _ (.int _ _) .nil) facts_none ?_ W
    rw [int4_eq]
    rfl
  · refine contract (η := { fi := kF, fb := kG }) (plain_of (by kernel_rfl)) (by kernel_rfl) (sumL_ok _ rfl rfl) (n := 60) (args := [.int .i64 (.lit 5)]) (args' := [.int .i64 5]) (.cons _ _ _ _ (.int _ _) .nil) facts_none ?_ W
    rw [int5_eq]
    rfl
  · refine contract (η := { fi := kF, fb := kG }) (plain_of (by kernel_rfl)) (by kernel_rfl) (sumL_ok _ rfl rfl) (n := 60) (args := [.int .i64 (.lit 6)]) (args' := [.int .i64 6]) (.cons _ _ _ _ (.int _ _) .nil) facts_none ?_ W
    rw [int6_eq]
    rfl
  · refine contract (η := { fi := kF, fb := kG }) (plain_of (by kernel_rfl)) (by kernel_rfl) (sumL_ok _ rfl rfl) (n := 60) (args := [.int .i64 (.lit 7)]) (args' := [.int .i64 7]) (.cons _ _ _ _ (.int _ _) .nil) facts_none ?_ W
    rw [int7_eq]
    rfl
  · refine contract (η := { fi := kF, fb := kG }) (plain_of (by kernel_rfl)) (by kernel_rfl) (sumL_ok _ rfl rfl) (n := 60) (args := [.int .i64 (.lit 8)]) (args' := [.int .i64 8]) (.cons _ _ _ _ (.int _ _) .nil) facts_none ?_ W
    rw [int8_eq]
    rfl
  · refine contract (η := { i := fun _ => k, fi := kF, fb := kG }) (plain_of (by kernel_rfl)) (by kernel_rfl) (sum1_ok _ rfl rfl) (n := 60) (args := [.int .i64 (.var 0)]) (args' := [.int .i64 k]) (.cons _ _ _ _ (.int _ _) .nil) facts_none ?_ W
    rw [int_eq]
    obtain ⟨h3, h4, h5, h6, h7, h8⟩ := hk
    simp only [intT, T.gives, V.val, V.vals, B.den, B.prop, E.den, propI, cmpI, kF10, kG10, kB, kS, kW, kLo, kHi, kI, h3, h4, h5, h6, h7, h8, if_false, if_true, Option.map_some, Option.some.injEq, reduceCtorEq, not_true_eq_false, not_false_eq_true, and_self, false_and, implies_true, true_implies, forall_const]
    repeat' first | apply And.intro | intro _
    all_goals first | rfl | trivial | omega | exact congrArg Value.bool (decide_eq_false (by omega)) | (simp_all; done) | (simp_all; omega) | (simp; omega)
def rint3T : T V := (.ret (.bool (.lit true)))
theorem rint3_eq : callTop Try.prog sumL 60 16 [.int .i64 (.lit 3)] [] = rint3T := by kernel_rfl
def rint4T : T V := (.ret (.bool (.lit true)))
theorem rint4_eq : callTop Try.prog sumL 60 16 [.int .i64 (.lit 4)] [] = rint4T := by kernel_rfl
def rint5T : T V := (.ret (.bool (.lit true)))
theorem rint5_eq : callTop Try.prog sumL 60 16 [.int .i64 (.lit 5)] [] = rint5T := by kernel_rfl
def rint6T : T V := (.ret (.bool (.lit true)))
theorem rint6_eq : callTop Try.prog sumL 60 16 [.int .i64 (.lit 6)] [] = rint6T := by kernel_rfl
def rint7T : T V := (.ret (.bool (.lit true)))
theorem rint7_eq : callTop Try.prog sumL 60 16 [.int .i64 (.lit 7)] [] = rint7T := by kernel_rfl
def rint8T : T V := (.ret (.bool (.lit true)))
theorem rint8_eq : callTop Try.prog sumL 60 16 [.int .i64 (.lit 8)] [] = rint8T := by kernel_rfl
def rintT : T V := (.node (.cmp .geq (.var 0) (.lit 3)) (.ret (.bool (.cmp .leq (.var 0) (.lit 8)))) (.ret (.bool (.lit false))))
theorem rint_eq : callTop Try.prog sum1 60 16 [.int .i64 (.var 0)] [] = rintT := by kernel_rfl
theorem rint_calls (k : Int) (W : World) : Calls Try.prog 16 #[.int .i64 k] W fun e W' => e = .returned (.bool (kI k)) ∧ Below W.heap.size W W' := by
  rcases kinds7 k with rfl | rfl | rfl | rfl | rfl | rfl | hk
  · refine contract (η := { fi := kF, fb := kG }) (plain_of (by kernel_rfl)) (by kernel_rfl) (sumL_ok _ rfl rfl) (n := 60) (args := [.int .i64 (.lit 3)]) (args' := [.int .i64 3]) (.cons _ _ _ _ (.int _ _) .nil) facts_none ?_ W
    rw [rint3_eq]
    rfl
  · refine contract (η := { fi := kF, fb := kG }) (plain_of (by kernel_rfl)) (by kernel_rfl) (sumL_ok _ rfl rfl) (n := 60) (args := [.int .i64 (.lit 4)]) (args' := [.int .i64 4]) (.cons _ _ _ _ (.int _ _) .nil) facts_none ?_ W
    rw [rint4_eq]
    rfl
  · refine contract (η := { fi := kF, fb := kG }) (plain_of (by kernel_rfl)) (by kernel_rfl) (sumL_ok _ rfl rfl) (n := 60) (args := [.int .i64 (.lit 5)]) (args' := [.int .i64 5]) (.cons _ _ _ _ (.int _ _) .nil) facts_none ?_ W
    rw [rint5_eq]
    rfl
  · refine contract (η := { fi := kF, fb := kG }) (plain_of (by kernel_rfl)) (by kernel_rfl) (sumL_ok _ rfl rfl) (n := 60) (args := [.int .i64 (.lit 6)]) (args' := [.int .i64 6]) (.cons _ _ _ _ (.int _ _) .nil) facts_none ?_ W
    rw [rint6_eq]
    rfl
  · refine contract (η := { fi := kF, fb := kG }) (plain_of (by kernel_rfl)) (by kernel_rfl) (sumL_ok _ rfl rfl) (n := 60) (args := [.int .i64 (.lit 7)]) (args' := [.int .i64 7]) (.cons _ _ _ _ (.int _ _) .nil) facts_none ?_ W
    rw [rint7_eq]
    rfl
  · refine contract (η := { fi := kF, fb := kG }) (plain_of (by kernel_rfl)) (by kernel_rfl) (sumL_ok _ rfl rfl) (n := 60) (args := [.int .i64 (.lit 8)]) (args' := [.int .i64 8]) (.cons _ _ _ _ (.int _ _) .nil) facts_none ?_ W
    rw [rint8_eq]
    rfl
  · refine contract (η := { i := fun _ => k, fi := kF, fb := kG }) (plain_of (by kernel_rfl)) (by kernel_rfl) (sum1_ok _ rfl rfl) (n := 60) (args := [.int .i64 (.var 0)]) (args' := [.int .i64 k]) (.cons _ _ _ _ (.int _ _) .nil) facts_none ?_ W
    rw [rint_eq]
    obtain ⟨h3, h4, h5, h6, h7, h8⟩ := hk
    simp only [rintT, T.gives, V.val, V.vals, B.den, B.prop, E.den, propI, cmpI, kF10, kG10, kB, kS, kW, kLo, kHi, kI, h3, h4, h5, h6, h7, h8, if_false, if_true, Option.map_some, Option.some.injEq, reduceCtorEq, not_true_eq_false, not_false_eq_true, and_self, false_and, implies_true, true_implies, forall_const]
    repeat' first | apply And.intro | intro _
    all_goals first | rfl | trivial | omega | exact congrArg Value.bool (decide_eq_false (by omega)) | (simp_all; done) | (simp_all; omega) | (simp; omega)
def rwrap3T : T V := (.node (.cmp .gtr (.rem (.add (.rem (.var 1) (.lit 256)) (.lit 256)) (.lit 256)) (.lit 127)) (.ret (.int .i64 (.sub (.rem (.add (.rem (.var 1) (.lit 256)) (.lit 256)) (.lit 256)) (.lit 256)))) (.ret (.int .i64 (.rem (.add (.rem (.var 1) (.lit 256)) (.lit 256)) (.lit 256)))))
theorem rwrap3_eq : callTop Try.prog sumL 60 18 [.int .i64 (.lit 3), .int .i64 (.var 1)] [] = rwrap3T := by kernel_rfl
def rwrap4T : T V := (.node (.cmp .gtr (.rem (.add (.rem (.var 1) (.lit 65536)) (.lit 65536)) (.lit 65536)) (.lit 32767)) (.ret (.int .i64 (.sub (.rem (.add (.rem (.var 1) (.lit 65536)) (.lit 65536)) (.lit 65536)) (.lit 65536)))) (.ret (.int .i64 (.rem (.add (.rem (.var 1) (.lit 65536)) (.lit 65536)) (.lit 65536)))))
theorem rwrap4_eq : callTop Try.prog sumL 60 18 [.int .i64 (.lit 4), .int .i64 (.var 1)] [] = rwrap4T := by kernel_rfl
def rwrap5T : T V := (.node (.cmp .gtr (.rem (.add (.rem (.var 1) (.lit 4294967296)) (.lit 4294967296)) (.lit 4294967296)) (.lit 2147483647)) (.ret (.int .i64 (.sub (.rem (.add (.rem (.var 1) (.lit 4294967296)) (.lit 4294967296)) (.lit 4294967296)) (.lit 4294967296)))) (.ret (.int .i64 (.rem (.add (.rem (.var 1) (.lit 4294967296)) (.lit 4294967296)) (.lit 4294967296)))))
theorem rwrap5_eq : callTop Try.prog sumL 60 18 [.int .i64 (.lit 5), .int .i64 (.var 1)] [] = rwrap5T := by kernel_rfl
def rwrap6T : T V := (.node (.cmp .gtr (.rem (.add (.rem (.var 1) (.lit 256)) (.lit 256)) (.lit 256)) (.lit 255)) (.ret (.int .i64 (.sub (.rem (.add (.rem (.var 1) (.lit 256)) (.lit 256)) (.lit 256)) (.lit 256)))) (.ret (.int .i64 (.rem (.add (.rem (.var 1) (.lit 256)) (.lit 256)) (.lit 256)))))
theorem rwrap6_eq : callTop Try.prog sumL 60 18 [.int .i64 (.lit 6), .int .i64 (.var 1)] [] = rwrap6T := by kernel_rfl
def rwrap7T : T V := (.node (.cmp .gtr (.rem (.add (.rem (.var 1) (.lit 65536)) (.lit 65536)) (.lit 65536)) (.lit 65535)) (.ret (.int .i64 (.sub (.rem (.add (.rem (.var 1) (.lit 65536)) (.lit 65536)) (.lit 65536)) (.lit 65536)))) (.ret (.int .i64 (.rem (.add (.rem (.var 1) (.lit 65536)) (.lit 65536)) (.lit 65536)))))
theorem rwrap7_eq : callTop Try.prog sumL 60 18 [.int .i64 (.lit 7), .int .i64 (.var 1)] [] = rwrap7T := by kernel_rfl
def rwrap8T : T V := (.node (.cmp .gtr (.rem (.add (.rem (.var 1) (.lit 4294967296)) (.lit 4294967296)) (.lit 4294967296)) (.lit 4294967295)) (.ret (.int .i64 (.sub (.rem (.add (.rem (.var 1) (.lit 4294967296)) (.lit 4294967296)) (.lit 4294967296)) (.lit 4294967296)))) (.ret (.int .i64 (.rem (.add (.rem (.var 1) (.lit 4294967296)) (.lit 4294967296)) (.lit 4294967296)))))
theorem rwrap8_eq : callTop Try.prog sumL 60 18 [.int .i64 (.lit 8), .int .i64 (.var 1)] [] = rwrap8T := by kernel_rfl
def rwrapT : T V := (.node (.cmp .eql (.fn 10 (.var 0) (.lit 0) (.lit 0)) (.lit 0)) (.ret (.int .i64 (.lit 0))) (.node (.fn 10 (.var 0) (.lit 0) (.lit 0)) (.node (.cmp .lss (.wrap .u64 (.wrap .i64 (.sub (.fn 10 (.var 0) (.lit 0) (.lit 0)) (.lit 1)))) (.lit 0)) (.fail 22) (.node (.cmp .lss (.wrap .u64 (.fn 10 (.var 0) (.lit 0) (.lit 0))) (.lit 0)) (.fail 22) (.node (.cmp .eql (.shl .i64 (.lit 1) (.wrap .u64 (.fn 10 (.var 0) (.lit 0) (.lit 0)))) (.lit 0)) (.fail 20) (.node (.cmp .gtr (.rem (.wrap .i64 (.add (.rem (.var 1) (.shl .i64 (.lit 1) (.wrap .u64 (.fn 10 (.var 0) (.lit 0) (.lit 0))))) (.shl .i64 (.lit 1) (.wrap .u64 (.fn 10 (.var 0) (.lit 0) (.lit 0)))))) (.shl .i64 (.lit 1) (.wrap .u64 (.fn 10 (.var 0) (.lit 0) (.lit 0))))) (.wrap .i64 (.sub (.shl .i64 (.lit 1) (.wrap .u64 (.wrap .i64 (.sub (.fn 10 (.var 0) (.lit 0) (.lit 0)) (.lit 1))))) (.lit 1)))) (.ret (.int .i64 (.wrap .i64 (.sub (.rem (.wrap .i64 (.add (.rem (.var 1) (.shl .i64 (.lit 1) (.wrap .u64 (.fn 10 (.var 0) (.lit 0) (.lit 0))))) (.shl .i64 (.lit 1) (.wrap .u64 (.fn 10 (.var 0) (.lit 0) (.lit 0)))))) (.shl .i64 (.lit 1) (.wrap .u64 (.fn 10 (.var 0) (.lit 0) (.lit 0))))) (.shl .i64 (.lit 1) (.wrap .u64 (.fn 10 (.var 0) (.lit 0) (.lit 0)))))))) (.ret (.int .i64 (.rem (.wrap .i64 (.add (.rem (.var 1) (.shl .i64 (.lit 1) (.wrap .u64 (.fn 10 (.var 0) (.lit 0) (.lit 0))))) (.shl .i64 (.lit 1) (.wrap .u64 (.fn 10 (.var 0) (.lit 0) (.lit 0)))))) (.shl .i64 (.lit 1) (.wrap .u64 (.fn 10 (.var 0) (.lit 0) (.lit 0))))))))))) (.node (.cmp .lss (.wrap .u64 (.fn 10 (.var 0) (.lit 0) (.lit 0))) (.lit 0)) (.fail 22) (.node (.cmp .eql (.shl .i64 (.lit 1) (.wrap .u64 (.fn 10 (.var 0) (.lit 0) (.lit 0)))) (.lit 0)) (.fail 20) (.node (.cmp .gtr (.rem (.wrap .i64 (.add (.rem (.var 1) (.shl .i64 (.lit 1) (.wrap .u64 (.fn 10 (.var 0) (.lit 0) (.lit 0))))) (.shl .i64 (.lit 1) (.wrap .u64 (.fn 10 (.var 0) (.lit 0) (.lit 0)))))) (.shl .i64 (.lit 1) (.wrap .u64 (.fn 10 (.var 0) (.lit 0) (.lit 0))))) (.wrap .i64 (.sub (.shl .i64 (.lit 1) (.wrap .u64 (.fn 10 (.var 0) (.lit 0) (.lit 0)))) (.lit 1)))) (.ret (.int .i64 (.wrap .i64 (.sub (.rem (.wrap .i64 (.add (.rem (.var 1) (.shl .i64 (.lit 1) (.wrap .u64 (.fn 10 (.var 0) (.lit 0) (.lit 0))))) (.shl .i64 (.lit 1) (.wrap .u64 (.fn 10 (.var 0) (.lit 0) (.lit 0)))))) (.shl .i64 (.lit 1) (.wrap .u64 (.fn 10 (.var 0) (.lit 0) (.lit 0))))) (.shl .i64 (.lit 1) (.wrap .u64 (.fn 10 (.var 0) (.lit 0) (.lit 0)))))))) (.ret (.int .i64 (.rem (.wrap .i64 (.add (.rem (.var 1) (.shl .i64 (.lit 1) (.wrap .u64 (.fn 10 (.var 0) (.lit 0) (.lit 0))))) (.shl .i64 (.lit 1) (.wrap .u64 (.fn 10 (.var 0) (.lit 0) (.lit 0)))))) (.shl .i64 (.lit 1) (.wrap .u64 (.fn 10 (.var 0) (.lit 0) (.lit 0))))))))))))
theorem rwrap_eq : callTop Try.prog sum1 60 18 [.int .i64 (.var 0), .int .i64 (.var 1)] [] = rwrapT := by kernel_rfl
theorem rwrap_calls (k v : Int) (W : World) : Calls Try.prog 18 #[.int .i64 k, .int .i64 v] W fun e W' => e = .returned (.int .i64 (kW k v)) ∧ Below W.heap.size W W' := by
  rcases kinds7 k with rfl | rfl | rfl | rfl | rfl | rfl | hk
  · refine contract (η := { i := fun _ => v, fi := kF, fb := kG }) (plain_of (by kernel_rfl)) (by kernel_rfl) (sumL_ok _ rfl rfl) (n := 60) (args := [.int .i64 (.lit 3), .int .i64 (.var 1)]) (args' := [.int .i64 3, .int .i64 v]) (.cons _ _ _ _ (.int _ _) (.cons _ _ _ _ (.int _ _) .nil)) facts_none ?_ W
    rw [rwrap3_eq]
    simp only [rwrap3T, T.gives, V.val, B.prop, E.den, propI, Option.some.injEq, Value.int.injEq, true_and, kW3, kW4, kW5, kW6, kW7, kW8, wrap_i8, wrap_i16, wrap_i32, wrap_u8, wrap_u16, wrap_u32, wrap_i64, wrap_u64, tmod_mod256, tmod_mod65536, tmod_mod4294967296]
    repeat' first | apply And.intro | intro _
    all_goals first | trivial | omega
  · refine contract (η := { i := fun _ => v, fi := kF, fb := kG }) (plain_of (by kernel_rfl)) (by kernel_rfl) (sumL_ok _ rfl rfl) (n := 60) (args := [.int .i64 (.lit 4), .int .i64 (.var 1)]) (args' := [.int .i64 4, .int .i64 v]) (.cons _ _ _ _ (.int _ _) (.cons _ _ _ _ (.int _ _) .nil)) facts_none ?_ W
    rw [rwrap4_eq]
    simp only [rwrap4T, T.gives, V.val, B.prop, E.den, propI, Option.some.injEq, Value.int.injEq, true_and, kW3, kW4, kW5, kW6, kW7, kW8, wrap_i8, wrap_i16, wrap_i32, wrap_u8, wrap_u16, wrap_u32, wrap_i64, wrap_u64, tmod_mod256, tmod_mod65536, tmod_mod4294967296]
    repeat' first | apply And.intro | intro _
    all_goals first | trivial | omega
  · refine contract (η := { i := fun _ => v, fi := kF, fb := kG }) (plain_of (by kernel_rfl)) (by kernel_rfl) (sumL_ok _ rfl rfl) (n := 60) (args := [.int .i64 (.lit 5), .int .i64 (.var 1)]) (args' := [.int .i64 5, .int .i64 v]) (.cons _ _ _ _ (.int _ _) (.cons _ _ _ _ (.int _ _) .nil)) facts_none ?_ W
    rw [rwrap5_eq]
    simp only [rwrap5T, T.gives, V.val, B.prop, E.den, propI, Option.some.injEq, Value.int.injEq, true_and, kW3, kW4, kW5, kW6, kW7, kW8, wrap_i8, wrap_i16, wrap_i32, wrap_u8, wrap_u16, wrap_u32, wrap_i64, wrap_u64, tmod_mod256, tmod_mod65536, tmod_mod4294967296]
    repeat' first | apply And.intro | intro _
    all_goals first | trivial | omega
  · refine contract (η := { i := fun _ => v, fi := kF, fb := kG }) (plain_of (by kernel_rfl)) (by kernel_rfl) (sumL_ok _ rfl rfl) (n := 60) (args := [.int .i64 (.lit 6), .int .i64 (.var 1)]) (args' := [.int .i64 6, .int .i64 v]) (.cons _ _ _ _ (.int _ _) (.cons _ _ _ _ (.int _ _) .nil)) facts_none ?_ W
    rw [rwrap6_eq]
    simp only [rwrap6T, T.gives, V.val, B.prop, E.den, propI, Option.some.injEq, Value.int.injEq, true_and, kW3, kW4, kW5, kW6, kW7, kW8, wrap_i8, wrap_i16, wrap_i32, wrap_u8, wrap_u16, wrap_u32, wrap_i64, wrap_u64, tmod_mod256, tmod_mod65536, tmod_mod4294967296]
    repeat' first | apply And.intro | intro _
    all_goals first | trivial | omega
  · refine contract (η := { i := fun _ => v, fi := kF, fb := kG }) (plain_of (by kernel_rfl)) (by kernel_rfl) (sumL_ok _ rfl rfl) (n := 60) (args := [.int .i64 (.lit 7), .int .i64 (.var 1)]) (args' := [.int .i64 7, .int .i64 v]) (.cons _ _ _ _ (.int _ _) (.cons _ _ _ _ (.int _ _) .nil)) facts_none ?_ W
    rw [rwrap7_eq]
    simp only [rwrap7T, T.gives, V.val, B.prop, E.den, propI, Option.some.injEq, Value.int.injEq, true_and, kW3, kW4, kW5, kW6, kW7, kW8, wrap_i8, wrap_i16, wrap_i32, wrap_u8, wrap_u16, wrap_u32, wrap_i64, wrap_u64, tmod_mod256, tmod_mod65536, tmod_mod4294967296]
    repeat' first | apply And.intro | intro _
    all_goals first | trivial | omega
  · refine contract (η := { i := fun _ => v, fi := kF, fb := kG }) (plain_of (by kernel_rfl)) (by kernel_rfl) (sumL_ok _ rfl rfl) (n := 60) (args := [.int .i64 (.lit 8), .int .i64 (.var 1)]) (args' := [.int .i64 8, .int .i64 v]) (.cons _ _ _ _ (.int _ _) (.cons _ _ _ _ (.int _ _) .nil)) facts_none ?_ W
    rw [rwrap8_eq]
    simp only [rwrap8T, T.gives, V.val, B.prop, E.den, propI, Option.some.injEq, Value.int.injEq, true_and, kW3, kW4, kW5, kW6, kW7, kW8, wrap_i8, wrap_i16, wrap_i32, wrap_u8, wrap_u16, wrap_u32, wrap_i64, wrap_u64, tmod_mod256, tmod_mod65536, tmod_mod4294967296]
    repeat' first | apply And.intro | intro _
    all_goals first | trivial | omega
  · refine contract (η := { i := fun n => if n = 0 then k else v, fi := kF, fb := kG }) (plain_of (by kernel_rfl)) (by kernel_rfl) (sum1_ok _ rfl rfl) (n := 60) (args := [.int .i64 (.var 0), .int .i64 (.var 1)]) (args' := [.int .i64 k, .int .i64 v]) (.cons _ _ _ _ (.int _ _) (.cons _ _ _ _ (.int _ _) .nil)) facts_none ?_ W
    rw [rwrap_eq]
    obtain ⟨h3, h4, h5, h6, h7, h8⟩ := hk
    simp only [rwrapT, T.gives, V.val, V.vals, B.den, B.prop, E.den, propI, cmpI, kF10, kG10, kB, kS, kW, kLo, kHi, kI, h3, h4, h5, h6, h7, h8, if_false, if_true, Option.map_some, Option.some.injEq, reduceCtorEq, not_true_eq_false, not_false_eq_true, and_self, false_and, implies_true, true_implies, forall_const]
    repeat' first | apply And.intro | intro _
    all_goals first | rfl | trivial | omega | exact congrArg Value.bool (decide_eq_false (by omega)) | (simp_all; done) | (simp_all; omega) | (simp; omega)
end Go.Proofs.Ytfkhlmmapopacaa.Sx
