/- BorrowCopies: all of its ways end in true. -/
import Derived.Test.YtbobnbndbgpanaaGreatBc0
import Derived.Test.YtbobnbndbgpanaaGreatBc1
import Derived.Test.YtbobnbndbgpanaaGreatBc2
import Derived.Test.YtbobnbndbgpanaaGreatBc3
import Derived.Test.YtbobnbndbgpanaaGreatBc4
import Derived.Test.YtbobnbndbgpanaaGreatBc5
import Derived.Test.YtbobnbndbgpanaaGreatBc6
import Derived.Test.YtbobnbndbgpanaaGreatBc7
import Derived.Test.YtbobnbndbgpanaaGreatSzArith
namespace Go.Proofs.YtbobnbndbgpanaaGreat.Sx
open Go Go.RowKit
set_option linter.unusedVariables false
set_option linter.unusedSimpArgs false
theorem bc_all (k m : Nat) (hk : k < 4) (hm : m < 8) : BcP k m := by
  match k, hk, m, hm with
  | 0, _, 0, _ => exact rBc_0_0
  | 0, _, 1, _ => exact rBc_0_1
  | 0, _, 2, _ => exact rBc_0_2
  | 0, _, 3, _ => exact rBc_0_3
  | 0, _, 4, _ => exact rBc_0_4
  | 0, _, 5, _ => exact rBc_0_5
  | 0, _, 6, _ => exact rBc_0_6
  | 0, _, 7, _ => exact rBc_0_7
  | 1, _, 0, _ => exact rBc_1_0
  | 1, _, 1, _ => exact rBc_1_1
  | 1, _, 2, _ => exact rBc_1_2
  | 1, _, 3, _ => exact rBc_1_3
  | 1, _, 4, _ => exact rBc_1_4
  | 1, _, 5, _ => exact rBc_1_5
  | 1, _, 6, _ => exact rBc_1_6
  | 1, _, 7, _ => exact rBc_1_7
  | 2, _, 0, _ => exact rBc_2_0
  | 2, _, 1, _ => exact rBc_2_1
  | 2, _, 2, _ => exact rBc_2_2
  | 2, _, 3, _ => exact rBc_2_3
  | 2, _, 4, _ => exact rBc_2_4
  | 2, _, 5, _ => exact rBc_2_5
  | 2, _, 6, _ => exact rBc_2_6
  | 2, _, 7, _ => exact rBc_2_7
  | 3, _, 0, _ => exact rBc_3_0
  | 3, _, 1, _ => exact rBc_3_1
  | 3, _, 2, _ => exact rBc_3_2
  | 3, _, 3, _ => exact rBc_3_3
  | 3, _, 4, _ => exact rBc_3_4
  | 3, _, 5, _ => exact rBc_3_5
  | 3, _, 6, _ => exact rBc_3_6
  | 3, _, 7, _ => exact rBc_3_7
  | k + 4, h, _, _ => exact absurd h (by omega)
  | _, _, m + 8, h => exact absurd h (by omega)
theorem bc_mod (a : Int) : ∃ k : Nat, k < 4 ∧ (a.tmod 4 + 4).tmod 4 = k := by
  have h1 := Int.tmod_lt_of_pos a (show (0 : Int) < 4 by omega)
  have h2 := Int.neg_tmod a 4
  have h3 := Int.tmod_lt_of_pos (-a) (show (0 : Int) < 4 by omega)
  have h4 : (a.tmod 4 + 4).tmod 4 = (a.tmod 4 + 4) % 4 := Int.tmod_eq_emod_of_nonneg (by omega)
  exact ⟨((a.tmod 4 + 4) % 4).toNat, by omega, by rw [h4]; omega⟩
theorem bc_and (a : Int) : ∃ k : Nat, k < 8 ∧ bitsI .and .i64 a 7 = k := by
  have h : bitsI .and .i64 a 7 = a % 8 := bits_and_mask a 3 (by omega)
  exact ⟨(a % 8).toNat, by omega, by rw [h]; omega⟩
theorem bc_call (η : Env) (a0 a1 : Int) (k m : Nat) (hk : k < 4) (hm : m < 8) (h0 : η.i 0 = a0) (h1 : η.i 1 = a1) (hf : ∀ p ∈ BcF k m, p.1.den η = p.2) (W : World) :
    Calls Tryz.prog 5 #[.int .i64 a0, .int .i64 a1] W fun e W' => e = .returned (.bool true) ∧ Below W.heap.size W W' := by
  subst h0 h1
  exact law_true (η := η) (args' := [.int .i64 (η.i 0), .int .i64 (η.i 1)]) (plain_of (by kernel_rfl)) (by kernel_rfl) (bcSum_ok η) (.cons _ _ _ _ (.int _ _) (.cons _ _ _ _ (.int _ _) .nil)) hf (bc_all k m hk hm) (bc_eq k m) W
theorem copies_walk (a0 a1 : Int) (w0 : (Lit.int .i64 a0).wf = true) (w1 : (Lit.int .i64 a1).wf = true) (W : World) :
    Calls Tryz.prog 5 #[.int .i64 a0, .int .i64 a1] W fun e W' => e = .returned (.bool true) ∧ Below W.heap.size W W' := by
  obtain ⟨k, hk, hk2⟩ := bc_mod a0
  obtain ⟨m, hm, hm2⟩ := bc_and a1
  refine bc_call { i := fun n => if n = 0 then a0 else a1 } a0 a1 k m hk hm rfl rfl ?_ W
  intro p hp
  simp only [BcF, List.mem_cons, List.not_mem_nil, or_false] at hp
  rcases hp with rfl | rfl
  · simp only [B.den, E.den, cmpI, BcE]
    show ((a0.tmod 4 + 4).tmod 4 == (k : Int)) = true
    rw [hk2]; simp
  · simp only [B.den, E.den, cmpI]
    show (bitsI .and .i64 a1 7 == (m : Int)) = true
    rw [hm2]; simp
end Go.Proofs.YtbobnbndbgpanaaGreat.Sx
