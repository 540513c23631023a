/- The walk of HeapNobody. -/
import Derived.Test.YtlpdemdakcjjjaaProg
import Derived.Test.YtlpdemdakcjjjaaSxArith
namespace Go.Proofs.Ytlpdemdakcjjjaa.Sx
open Go Go.RowKit
set_option linter.unusedVariables false
set_option linter.unusedSimpArgs false
set_option maxRecDepth 100000
def nobodyT : T V := (.ret (.bool (.lit true)))
theorem nobody_eq : callTop Try.prog noSum 60 4 [.int .i64 (.var 0)] [] = nobodyT := by kernel_rfl
theorem nobody_good (η : Env) : nobodyT.good η := by
  simp only [nobodyT, T.good, B.prop, E.den, propI]
theorem nobody_walk (a0 : Int) (w0 : (Lit.int .i64 a0).wf = true) (W : World) :
    Calls Try.prog 4 #[.int .i64 a0] W fun e W' => e = .returned (.bool true) ∧ Below W.heap.size W W' := by
  refine law_ok (η := { i := fun n => a0 }) (plain_of (by kernel_rfl)) (by kernel_rfl) (noSum_ok _ _) (args := [.int .i64 (.var 0)]) (args' := [.int .i64 a0])
      (.cons _ _ _ _ (.int _ _) .nil) (n := 60) facts_none ?_ W
  rw [nobody_eq]; exact T.good_yes (nobody_good _)
end Go.Proofs.Ytlpdemdakcjjjaa.Sx
