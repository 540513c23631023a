/- NamesInner: all of its ways end in true. -/
import Derived.Test.YtpenfeehnpponaaNiBase
import Derived.Test.YtpenfeehnpponaaSzArith
namespace Go.Proofs.Ytpenfeehnpponaa.Sx
open Go Go.RowKit
set_option linter.unusedVariables false
set_option linter.unusedSimpArgs false
set_option maxRecDepth 100000
theorem ni_all (n m : Nat) (hn : n < 4) (hm : m < 2) (s : Bool) : isTrue (niT n m s) = true := by
  match n, hn, m, hm, s with
  | 0, _, 0, _, true => exact ni0_0t
  | 0, _, 0, _, false => exact ni0_0f
  | 0, _, 1, _, true => exact ni0_1t
  | 0, _, 1, _, false => exact ni0_1f
  | 1, _, 0, _, true => exact ni1_0t
  | 1, _, 0, _, false => exact ni1_0f
  | 1, _, 1, _, true => exact ni1_1t
  | 1, _, 1, _, false => exact ni1_1f
  | 2, _, 0, _, true => exact ni2_0t
  | 2, _, 0, _, false => exact ni2_0f
  | 2, _, 1, _, true => exact ni2_1t
  | 2, _, 1, _, false => exact ni2_1f
  | 3, _, 0, _, true => exact ni3_0t
  | 3, _, 0, _, false => exact ni3_0f
  | 3, _, 1, _, true => exact ni3_1t
  | 3, _, 1, _, false => exact ni3_1f
  | n + 4, h, _, _, _ => exact absurd h (by omega)
  | _, _, m + 2, h, _ => exact absurd h (by omega)
theorem ni_and3 (a : Int) : ∃ k : Nat, k < 4 ∧ bitsI .and .i64 a 3 = k := by
  have h : bitsI .and .i64 a 3 = a % 4 := bits_and_mask a 2 (by omega)
  exact ⟨(a % 4).toNat, by omega, by rw [h]; omega⟩
theorem ni_and1 (a : Int) : ∃ k : Nat, k < 2 ∧ bitsI .and .i64 a 1 = k := by
  have h : bitsI .and .i64 a 1 = a % 2 := bits_and_mask a 1 (by omega)
  exact ⟨(a % 2).toNat, by omega, by rw [h]; omega⟩
theorem inner_walk (a0 : Int) (a1 : Bool) (a2 : Int) (w0 : (Lit.int .i64 a0).wf = true) (w2 : (Lit.int .i64 a2).wf = true) (W : World) :
    Calls Try.prog 3 #[.int .i64 a0, .bool a1, .int .i64 a2] W fun e W' => e = .returned (.bool true) ∧ Below W.heap.size W W' := by
  obtain ⟨n, hn, hn2⟩ := ni_and3 a0
  obtain ⟨m, hm, hm2⟩ := ni_and1 a2
  let η : Env := { i := fun n => if n = 0 then a0 else a2, b := fun _ => a1 }
  refine law_ok (η := η) (plain_of (by kernel_rfl)) (by kernel_rfl) (noSum_ok _ _) (args := [.int .i64 (.var 0), .bool (.var 0), .int .i64 (.var 1)]) (args' := [.int .i64 a0, .bool a1, .int .i64 a2])
      (.cons _ _ _ _ (.int _ _) (.cons _ _ _ _ (.bool _) (.cons _ _ _ _ (.int _ _) .nil))) (n := 4000) (facts := niF n m a1) ?_ ?_ W
  · intro p hp
    simp only [niF, List.mem_cons, List.not_mem_nil, or_false] at hp
    rcases hp with rfl | rfl | rfl
    · simp only [B.den, E.den, cmpI]
      show (bitsI .and .i64 a0 3 == (n : Int)) = true
      rw [hn2]; simp
    · simp only [B.den, E.den, cmpI]
      show (bitsI .and .i64 a2 1 == (m : Int)) = true
      rw [hm2]; simp
    · rfl
  · rw [← callTopF_eq ni_plans]
    exact T.good_yes (isTrue_ok (ni_all n m hn hm a1))
end Go.Proofs.Ytpenfeehnpponaa.Sx
