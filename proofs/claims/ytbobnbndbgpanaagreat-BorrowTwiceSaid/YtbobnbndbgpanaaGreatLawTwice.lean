/- BorrowTwice: all of its ways end in true. -/
import Derived.Test.YtbobnbndbgpanaaGreatBt0
import Derived.Test.YtbobnbndbgpanaaGreatBt1
import Derived.Test.YtbobnbndbgpanaaGreatBt2
import Derived.Test.YtbobnbndbgpanaaGreatBt3
import Derived.Test.YtbobnbndbgpanaaGreatBt4
import Derived.Test.YtbobnbndbgpanaaGreatBt5
import Derived.Test.YtbobnbndbgpanaaGreatBt6
import Derived.Test.YtbobnbndbgpanaaGreatBt7
import Derived.Test.YtbobnbndbgpanaaGreatSzArith
namespace Go.Proofs.YtbobnbndbgpanaaGreat.Sx
open Go Go.RowKit
set_option linter.unusedVariables false
set_option linter.unusedSimpArgs false
theorem bt_all (k m : Nat) (hk : k < 4) (hm : m < 4) : BtP k m := by
  match k, hk, m, hm with
  | 0, _, 0, _ => exact rBt_0_0
  | 0, _, 1, _ => exact rBt_0_1
  | 0, _, 2, _ => exact rBt_0_2
  | 0, _, 3, _ => exact rBt_0_3
  | 1, _, 0, _ => exact rBt_1_0
  | 1, _, 1, _ => exact rBt_1_1
  | 1, _, 2, _ => exact rBt_1_2
  | 1, _, 3, _ => exact rBt_1_3
  | 2, _, 0, _ => exact rBt_2_0
  | 2, _, 1, _ => exact rBt_2_1
  | 2, _, 2, _ => exact rBt_2_2
  | 2, _, 3, _ => exact rBt_2_3
  | 3, _, 0, _ => exact rBt_3_0
  | 3, _, 1, _ => exact rBt_3_1
  | 3, _, 2, _ => exact rBt_3_2
  | 3, _, 3, _ => exact rBt_3_3
  | k + 4, h, _, _ => exact absurd h (by omega)
  | _, _, m + 4, h => exact absurd h (by omega)
theorem bt_and (a : Int) : ∃ k : Nat, k < 4 ∧ bitsI .and .i64 a 3 = k := by
  have h : bitsI .and .i64 a 3 = a % 4 := bits_and_mask a 2 (by omega)
  exact ⟨(a % 4).toNat, by omega, by rw [h]; omega⟩
theorem bt_call (η : Env) (a0 a1 : Int) (k m : Nat) (hk : k < 4) (hm : m < 4) (h0 : η.i 0 = a0) (h1 : η.i 1 = a1) (hf : ∀ p ∈ BtF k m, p.1.den η = p.2) (W : World) :
    Calls Tryz.prog 3 #[.int .i64 a0, .int .i64 a1] W fun e W' => e = .returned (.bool true) ∧ Below W.heap.size W W' := by
  subst h0 h1
  exact law_true (η := η) (args' := [.int .i64 (η.i 0), .int .i64 (η.i 1)]) (plain_of (by kernel_rfl)) (by kernel_rfl) (puSum_ok η) (.cons _ _ _ _ (.int _ _) (.cons _ _ _ _ (.int _ _) .nil)) hf (bt_all k m hk hm) (bt_eq k m) W
theorem twice_walk (a0 a1 : Int) (w0 : (Lit.int .i64 a0).wf = true) (w1 : (Lit.int .i64 a1).wf = true) (W : World) :
    Calls Tryz.prog 3 #[.int .i64 a0, .int .i64 a1] W fun e W' => e = .returned (.bool true) ∧ Below W.heap.size W W' := by
  obtain ⟨k, hk, hk2⟩ := bt_and a0
  obtain ⟨m, hm, hm2⟩ := bt_and a1
  refine bt_call { i := fun n => if n = 0 then a0 else a1 } a0 a1 k m hk hm rfl rfl ?_ W
  intro p hp
  simp only [BtF, List.mem_cons, List.not_mem_nil, or_false] at hp
  rcases hp with rfl | rfl
  · simp only [B.den, E.den, cmpI]
    show (bitsI .and .i64 a0 3 == (k : Int)) = true
    rw [hk2]; simp
  · simp only [B.den, E.den, cmpI]
    show (bitsI .and .i64 a1 3 == (m : Int)) = true
    rw [hm2]; simp
end Go.Proofs.YtbobnbndbgpanaaGreat.Sx
