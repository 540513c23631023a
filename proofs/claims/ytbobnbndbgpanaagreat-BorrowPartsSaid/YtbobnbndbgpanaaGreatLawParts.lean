/- BorrowParts: all of its ways end in true. -/
import Derived.Test.YtbobnbndbgpanaaGreatBp0
import Derived.Test.YtbobnbndbgpanaaGreatBp1
import Derived.Test.YtbobnbndbgpanaaGreatBp2
import Derived.Test.YtbobnbndbgpanaaGreatBp3
import Derived.Test.YtbobnbndbgpanaaGreatBp4
import Derived.Test.YtbobnbndbgpanaaGreatBp5
import Derived.Test.YtbobnbndbgpanaaGreatBp6
import Derived.Test.YtbobnbndbgpanaaGreatBp7
import Derived.Test.YtbobnbndbgpanaaGreatSzArith
namespace Go.Proofs.YtbobnbndbgpanaaGreat.Sx
open Go Go.RowKit
set_option linter.unusedVariables false
set_option linter.unusedSimpArgs false
theorem bp_all (k : Nat) (hk : k < 8) : BpP k := by
  match k, hk with
  | 0, _ => exact rBp_0
  | 1, _ => exact rBp_1
  | 2, _ => exact rBp_2
  | 3, _ => exact rBp_3
  | 4, _ => exact rBp_4
  | 5, _ => exact rBp_5
  | 6, _ => exact rBp_6
  | 7, _ => exact rBp_7
  | k + 8, h => exact absurd h (by omega)
theorem bp_mod (a : Int) : ∃ k : Nat, k < 8 ∧ (a.tmod 8 + 8).tmod 8 = k := by
  have h1 := Int.tmod_lt_of_pos a (show (0 : Int) < 8 by omega)
  have h2 := Int.neg_tmod a 8
  have h3 := Int.tmod_lt_of_pos (-a) (show (0 : Int) < 8 by omega)
  have h4 : (a.tmod 8 + 8).tmod 8 = (a.tmod 8 + 8) % 8 := Int.tmod_eq_emod_of_nonneg (by omega)
  exact ⟨((a.tmod 8 + 8) % 8).toNat, by omega, by rw [h4]; omega⟩
theorem bp_call (η : Env) (a0 : Int) (k : Nat) (hk : k < 8) (h0 : η.i 0 = a0) (hf : ∀ p ∈ BpF k, p.1.den η = p.2) (W : World) :
    Calls Tryz.prog 6 #[.int .i64 a0] W fun e W' => e = .returned (.bool true) ∧ Below W.heap.size W W' := by
  subst h0
  exact law_true (η := η) (args' := [.int .i64 (η.i 0)]) (plain_of (by kernel_rfl)) (by kernel_rfl) (puSum_ok η) (.cons _ _ _ _ (.int _ _) .nil) hf (bp_all k hk) (bp_eq k) W
theorem parts_walk (a0 : Int) (w0 : (Lit.int .i64 a0).wf = true) (W : World) :
    Calls Tryz.prog 6 #[.int .i64 a0] W fun e W' => e = .returned (.bool true) ∧ Below W.heap.size W W' := by
  obtain ⟨k, hk, hk2⟩ := bp_mod a0
  refine bp_call { i := fun _ => a0 } a0 k hk rfl ?_ W
  intro p hp
  simp only [BpF, List.mem_cons, List.not_mem_nil, or_false] at hp
  subst hp
  simp only [B.den, E.den, cmpI, BpE]
  rw [hk2]; simp
end Go.Proofs.YtbobnbndbgpanaaGreat.Sx
