/- The walk of NumOrder: what the executor makes of it, and that all its ways end in true. -/
import Derived.Test.YtfkhlmmapopacaaProg
import Derived.Test.YtfkhlmmapopacaaSxTop
namespace Go.Proofs.Ytfkhlmmapopacaa.Sx
open Go Go.RowKit
set_option linter.unusedVariables false
set_option linter.unusedSimpArgs false

def orderT : T V := (.node (.cmp .lss (.var 0) (.var 1)) (.node (.cmp .eql (.var 0) (.var 1)) (.node (.cmp .gtr (.var 0) (.var 1)) (.ret (.bool (.lit false))) (.ret (.bool (.lit false)))) (.node (.cmp .gtr (.var 0) (.var 1)) (.ret (.bool (.lit false))) (.node (.cmp .leq (.var 0) (.var 1)) (.node (.cmp .geq (.var 0) (.var 1)) (.ret (.bool (.lit false))) (.node (.cmp .neq (.var 0) (.var 1)) (.ret (.bool (.cmp .lss (.var 0) (.var 1)))) (.ret (.bool (.lit false))))) (.ret (.bool (.lit false)))))) (.node (.cmp .eql (.var 0) (.var 1)) (.node (.cmp .gtr (.var 0) (.var 1)) (.ret (.bool (.lit false))) (.node (.cmp .leq (.var 0) (.var 1)) (.node (.cmp .geq (.var 0) (.var 1)) (.node (.cmp .neq (.var 0) (.var 1)) (.ret (.bool (.lit false))) (.ret (.bool (.not (.cmp .lss (.var 0) (.var 1)))))) (.ret (.bool (.lit false)))) (.ret (.bool (.lit false))))) (.node (.cmp .gtr (.var 0) (.var 1)) (.node (.cmp .leq (.var 0) (.var 1)) (.ret (.bool (.lit false))) (.node (.cmp .geq (.var 0) (.var 1)) (.node (.cmp .neq (.var 0) (.var 1)) (.ret (.bool (.not (.cmp .lss (.var 0) (.var 1))))) (.ret (.bool (.lit false)))) (.ret (.bool (.lit false))))) (.ret (.bool (.lit false))))))
theorem order_eq : callTop Try.prog noSum 60 3 [.int .i64 (.var 0), .int .i64 (.var 1)] [] = orderT := by kernel_rfl
theorem order_good (η : Env) : orderT.good η := by
  simp only [orderT, T.good, B.prop, E.den, propI]
  repeat' apply And.intro
  all_goals intros
  all_goals omega
theorem order_walk (a0 a1 : Int) (w0 : (Lit.int .i64 a0).wf = true) (w1 : (Lit.int .i64 a1).wf = true) (W : World) :
    Calls Try.prog 3 #[.int .i64 a0, .int .i64 a1] W fun e W' => e = .returned (.bool true) ∧ Below W.heap.size W W' := by
  refine law_ok (η := { i := fun n => if n = 0 then a0 else a1 }) (plain_of (by kernel_rfl)) (by kernel_rfl) (noSum_ok _ _) (args := [.int .i64 (.var 0), .int .i64 (.var 1)]) (args' := [.int .i64 a0, .int .i64 a1])
    (.cons _ _ _ _ (.int _ _) (.cons _ _ _ _ (.int _ _) .nil)) (n := 60) facts_none ?_ W
  rw [order_eq]
  exact T.good_yes (order_good _)
end Go.Proofs.Ytfkhlmmapopacaa.Sx
