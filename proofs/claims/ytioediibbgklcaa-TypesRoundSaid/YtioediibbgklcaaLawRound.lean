/- TypesRound: all of its ways end in true. -/
import Derived.Test.YtioediibbgklcaaTr0
import Derived.Test.YtioediibbgklcaaTr1
import Derived.Test.YtioediibbgklcaaTr2
import Derived.Test.YtioediibbgklcaaTr3
import Derived.Test.YtioediibbgklcaaTr4
import Derived.Test.YtioediibbgklcaaTr5
import Derived.Test.YtioediibbgklcaaTr6
import Derived.Test.YtioediibbgklcaaTr7
import Derived.Test.YtioediibbgklcaaSzArith
namespace Go.Proofs.Ytioediibbgklcaa.Sx
open Go Go.RowKit
set_option linter.unusedVariables false
set_option linter.unusedSimpArgs false
set_option maxRecDepth 100000
theorem tr_all (k : Nat) (hk : k < 8) (s : Bool) : isTrue (trT k s) = true := by
  match k, hk, s with
  | 0, _, true => exact tr0t
  | 0, _, false => exact tr0f
  | 1, _, true => exact tr1t
  | 1, _, false => exact tr1f
  | 2, _, true => exact tr2t
  | 2, _, false => exact tr2f
  | 3, _, true => exact tr3t
  | 3, _, false => exact tr3f
  | 4, _, true => exact tr4t
  | 4, _, false => exact tr4f
  | 5, _, true => exact tr5t
  | 5, _, false => exact tr5f
  | 6, _, true => exact tr6t
  | 6, _, false => exact tr6f
  | 7, _, true => exact tr7t
  | 7, _, false => exact tr7f
  | k + 8, h, _ => exact absurd h (by omega)
theorem tr_and (a : Int) : ∃ k : Nat, k < 8 ∧ bitsI .and .i64 a 7 = k := by
  have h : bitsI .and .i64 a 7 = a % 8 := and_7 a
  exact ⟨(a % 8).toNat, by omega, by rw [h]; omega⟩
theorem round_walk (a0 : Int) (a1 : Bool) (w0 : (Lit.int .i64 a0).wf = true) (W : World) :
    Calls Try.prog 3 #[.int .i64 a0, .bool a1] W fun e W' => e = .returned (.bool true) ∧ Below W.heap.size W W' := by
  obtain ⟨k, hk, hk2⟩ := tr_and a0
  let η : Env := { i := fun _ => a0, b := fun _ => a1 }
  refine law_ok (η := η) (plain_of (by kernel_rfl)) (by kernel_rfl) (noSum_ok _ _) (args := [.int .i64 (.var 0), .bool (.var 0)]) (args' := [.int .i64 a0, .bool a1])
      (.cons _ _ _ _ (.int _ _) (.cons _ _ _ _ (.bool _) .nil)) (n := 30000) (facts := trF k a1) ?_ ?_ W
  · intro p hp
    simp only [trF, List.mem_cons, List.not_mem_nil, or_false] at hp
    rcases hp with rfl | rfl
    · simp only [B.den, E.den, cmpI]
      show (bitsI .and .i64 a0 7 == (k : Int)) = true
      rw [hk2]; simp
    · rfl
  · rw [← callTopF_eq tr_plans]
    exact T.good_yes (isTrue_ok (tr_all k hk a1))
end Go.Proofs.Ytioediibbgklcaa.Sx
