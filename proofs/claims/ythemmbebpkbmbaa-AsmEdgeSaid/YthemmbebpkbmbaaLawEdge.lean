/- AsmEdge: all of its ways end in true. -/
import Derived.Test.YthemmbebpkbmbaaAe0
import Derived.Test.YthemmbebpkbmbaaAe1
import Derived.Test.YthemmbebpkbmbaaAe2
import Derived.Test.YthemmbebpkbmbaaAe3
import Derived.Test.YthemmbebpkbmbaaAe4
import Derived.Test.YthemmbebpkbmbaaAe5
import Derived.Test.YthemmbebpkbmbaaAe6
import Derived.Test.YthemmbebpkbmbaaAe7
import Derived.Test.YthemmbebpkbmbaaAe8
import Derived.Test.YthemmbebpkbmbaaAe9
import Derived.Test.YthemmbebpkbmbaaAe10
import Derived.Test.YthemmbebpkbmbaaAe11
import Derived.Test.YthemmbebpkbmbaaAe12
import Derived.Test.YthemmbebpkbmbaaAe13
import Derived.Test.YthemmbebpkbmbaaAe14
import Derived.Test.YthemmbebpkbmbaaAe15
import Derived.Test.YthemmbebpkbmbaaSzArith
namespace Go.Proofs.Ythemmbebpkbmbaa.Sx
open Go Go.RowKit
set_option linter.unusedVariables false
set_option linter.unusedSimpArgs false
theorem ae_all0 (k : Nat) (hk : k < 4) (s : Bool) : AeP (0 + k) s := by
  match k, hk, s with
  | 0, _, true => exact rAe_0_true
  | 0, _, false => exact rAe_0_false
  | 1, _, true => exact rAe_1_true
  | 1, _, false => exact rAe_1_false
  | 2, _, true => exact rAe_2_true
  | 2, _, false => exact rAe_2_false
  | 3, _, true => exact rAe_3_true
  | 3, _, false => exact rAe_3_false
  | k + 4, h, _ => exact absurd h (by omega)
theorem ae_all1 (k : Nat) (hk : k < 4) (s : Bool) : AeP (4 + k) s := by
  match k, hk, s with
  | 0, _, true => exact rAe_4_true
  | 0, _, false => exact rAe_4_false
  | 1, _, true => exact rAe_5_true
  | 1, _, false => exact rAe_5_false
  | 2, _, true => exact rAe_6_true
  | 2, _, false => exact rAe_6_false
  | 3, _, true => exact rAe_7_true
  | 3, _, false => exact rAe_7_false
  | k + 4, h, _ => exact absurd h (by omega)
theorem ae_all2 (k : Nat) (hk : k < 4) (s : Bool) : AeP (8 + k) s := by
  match k, hk, s with
  | 0, _, true => exact rAe_8_true
  | 0, _, false => exact rAe_8_false
  | 1, _, true => exact rAe_9_true
  | 1, _, false => exact rAe_9_false
  | 2, _, true => exact rAe_10_true
  | 2, _, false => exact rAe_10_false
  | 3, _, true => exact rAe_11_true
  | 3, _, false => exact rAe_11_false
  | k + 4, h, _ => exact absurd h (by omega)
theorem ae_all3 (k : Nat) (hk : k < 4) (s : Bool) : AeP (12 + k) s := by
  match k, hk, s with
  | 0, _, true => exact rAe_12_true
  | 0, _, false => exact rAe_12_false
  | 1, _, true => exact rAe_13_true
  | 1, _, false => exact rAe_13_false
  | 2, _, true => exact rAe_14_true
  | 2, _, false => exact rAe_14_false
  | 3, _, true => exact rAe_15_true
  | 3, _, false => exact rAe_15_false
  | k + 4, h, _ => exact absurd h (by omega)
theorem ae_all4 (k : Nat) (hk : k < 4) (s : Bool) : AeP (16 + k) s := by
  match k, hk, s with
  | 0, _, true => exact rAe_16_true
  | 0, _, false => exact rAe_16_false
  | 1, _, true => exact rAe_17_true
  | 1, _, false => exact rAe_17_false
  | 2, _, true => exact rAe_18_true
  | 2, _, false => exact rAe_18_false
  | 3, _, true => exact rAe_19_true
  | 3, _, false => exact rAe_19_false
  | k + 4, h, _ => exact absurd h (by omega)
theorem ae_all5 (k : Nat) (hk : k < 4) (s : Bool) : AeP (20 + k) s := by
  match k, hk, s with
  | 0, _, true => exact rAe_20_true
  | 0, _, false => exact rAe_20_false
  | 1, _, true => exact rAe_21_true
  | 1, _, false => exact rAe_21_false
  | 2, _, true => exact rAe_22_true
  | 2, _, false => exact rAe_22_false
  | 3, _, true => exact rAe_23_true
  | 3, _, false => exact rAe_23_false
  | k + 4, h, _ => exact absurd h (by omega)
theorem ae_all6 (k : Nat) (hk : k < 4) (s : Bool) : AeP (24 + k) s := by
  match k, hk, s with
  | 0, _, true => exact rAe_24_true
  | 0, _, false => exact rAe_24_false
  | 1, _, true => exact rAe_25_true
  | 1, _, false => exact rAe_25_false
  | 2, _, true => exact rAe_26_true
  | 2, _, false => exact rAe_26_false
  | 3, _, true => exact rAe_27_true
  | 3, _, false => exact rAe_27_false
  | k + 4, h, _ => exact absurd h (by omega)
theorem ae_all7 (k : Nat) (hk : k < 4) (s : Bool) : AeP (28 + k) s := by
  match k, hk, s with
  | 0, _, true => exact rAe_28_true
  | 0, _, false => exact rAe_28_false
  | 1, _, true => exact rAe_29_true
  | 1, _, false => exact rAe_29_false
  | 2, _, true => exact rAe_30_true
  | 2, _, false => exact rAe_30_false
  | 3, _, true => exact rAe_31_true
  | 3, _, false => exact rAe_31_false
  | k + 4, h, _ => exact absurd h (by omega)
theorem ae_all8 (k : Nat) (hk : k < 4) (s : Bool) : AeP (32 + k) s := by
  match k, hk, s with
  | 0, _, true => exact rAe_32_true
  | 0, _, false => exact rAe_32_false
  | 1, _, true => exact rAe_33_true
  | 1, _, false => exact rAe_33_false
  | 2, _, true => exact rAe_34_true
  | 2, _, false => exact rAe_34_false
  | 3, _, true => exact rAe_35_true
  | 3, _, false => exact rAe_35_false
  | k + 4, h, _ => exact absurd h (by omega)
theorem ae_all9 (k : Nat) (hk : k < 4) (s : Bool) : AeP (36 + k) s := by
  match k, hk, s with
  | 0, _, true => exact rAe_36_true
  | 0, _, false => exact rAe_36_false
  | 1, _, true => exact rAe_37_true
  | 1, _, false => exact rAe_37_false
  | 2, _, true => exact rAe_38_true
  | 2, _, false => exact rAe_38_false
  | 3, _, true => exact rAe_39_true
  | 3, _, false => exact rAe_39_false
  | k + 4, h, _ => exact absurd h (by omega)
theorem ae_all10 (k : Nat) (hk : k < 4) (s : Bool) : AeP (40 + k) s := by
  match k, hk, s with
  | 0, _, true => exact rAe_40_true
  | 0, _, false => exact rAe_40_false
  | 1, _, true => exact rAe_41_true
  | 1, _, false => exact rAe_41_false
  | 2, _, true => exact rAe_42_true
  | 2, _, false => exact rAe_42_false
  | 3, _, true => exact rAe_43_true
  | 3, _, false => exact rAe_43_false
  | k + 4, h, _ => exact absurd h (by omega)
theorem ae_all11 (k : Nat) (hk : k < 4) (s : Bool) : AeP (44 + k) s := by
  match k, hk, s with
  | 0, _, true => exact rAe_44_true
  | 0, _, false => exact rAe_44_false
  | 1, _, true => exact rAe_45_true
  | 1, _, false => exact rAe_45_false
  | 2, _, true => exact rAe_46_true
  | 2, _, false => exact rAe_46_false
  | 3, _, true => exact rAe_47_true
  | 3, _, false => exact rAe_47_false
  | k + 4, h, _ => exact absurd h (by omega)
theorem ae_all12 (k : Nat) (hk : k < 4) (s : Bool) : AeP (48 + k) s := by
  match k, hk, s with
  | 0, _, true => exact rAe_48_true
  | 0, _, false => exact rAe_48_false
  | 1, _, true => exact rAe_49_true
  | 1, _, false => exact rAe_49_false
  | 2, _, true => exact rAe_50_true
  | 2, _, false => exact rAe_50_false
  | 3, _, true => exact rAe_51_true
  | 3, _, false => exact rAe_51_false
  | k + 4, h, _ => exact absurd h (by omega)
theorem ae_all13 (k : Nat) (hk : k < 4) (s : Bool) : AeP (52 + k) s := by
  match k, hk, s with
  | 0, _, true => exact rAe_52_true
  | 0, _, false => exact rAe_52_false
  | 1, _, true => exact rAe_53_true
  | 1, _, false => exact rAe_53_false
  | 2, _, true => exact rAe_54_true
  | 2, _, false => exact rAe_54_false
  | 3, _, true => exact rAe_55_true
  | 3, _, false => exact rAe_55_false
  | k + 4, h, _ => exact absurd h (by omega)
theorem ae_all14 (k : Nat) (hk : k < 4) (s : Bool) : AeP (56 + k) s := by
  match k, hk, s with
  | 0, _, true => exact rAe_56_true
  | 0, _, false => exact rAe_56_false
  | 1, _, true => exact rAe_57_true
  | 1, _, false => exact rAe_57_false
  | 2, _, true => exact rAe_58_true
  | 2, _, false => exact rAe_58_false
  | 3, _, true => exact rAe_59_true
  | 3, _, false => exact rAe_59_false
  | k + 4, h, _ => exact absurd h (by omega)
theorem ae_all15 (k : Nat) (hk : k < 4) (s : Bool) : AeP (60 + k) s := by
  match k, hk, s with
  | 0, _, true => exact rAe_60_true
  | 0, _, false => exact rAe_60_false
  | 1, _, true => exact rAe_61_true
  | 1, _, false => exact rAe_61_false
  | 2, _, true => exact rAe_62_true
  | 2, _, false => exact rAe_62_false
  | 3, _, true => exact rAe_63_true
  | 3, _, false => exact rAe_63_false
  | k + 4, h, _ => exact absurd h (by omega)
theorem ae_all (j k : Nat) (hj : j < 16) (hk : k < 4) (s : Bool) : AeP (4 * j + k) s := by
  match j, hj with
  | 0, _ => exact ae_all0 k hk s
  | 1, _ => exact ae_all1 k hk s
  | 2, _ => exact ae_all2 k hk s
  | 3, _ => exact ae_all3 k hk s
  | 4, _ => exact ae_all4 k hk s
  | 5, _ => exact ae_all5 k hk s
  | 6, _ => exact ae_all6 k hk s
  | 7, _ => exact ae_all7 k hk s
  | 8, _ => exact ae_all8 k hk s
  | 9, _ => exact ae_all9 k hk s
  | 10, _ => exact ae_all10 k hk s
  | 11, _ => exact ae_all11 k hk s
  | 12, _ => exact ae_all12 k hk s
  | 13, _ => exact ae_all13 k hk s
  | 14, _ => exact ae_all14 k hk s
  | 15, _ => exact ae_all15 k hk s
  | j + 16, h => exact absurd h (by omega)
theorem ae_and (a : Int) : ∃ j k : Nat, j < 16 ∧ k < 4 ∧ bitsI .and .i64 a 63 = ((4 * j + k : Nat) : Int) := by
  have h : bitsI .and .i64 a 63 = a % 64 := bits_and_mask a 6 (by omega)
  exact ⟨(a % 64).toNat / 4, (a % 64).toNat % 4, by omega, by omega, by rw [h]; omega⟩
theorem ae_call (η : Env) (a0 : Int) (a1 : Bool) (j k : Nat) (hj : j < 16) (hk : k < 4) (h0 : η.i 0 = a0) (h1 : η.b 0 = a1) (hf : ∀ p ∈ AeF (4 * j + k) a1, p.1.den η = p.2) (W : World) :
    Calls Try.prog 3 #[.int .i64 a0, .bool a1] W fun e W' => e = .returned (.bool true) ∧ Below W.heap.size W W' := by
  subst h0 h1
  exact law_true (η := η) (args' := [.int .i64 (η.i 0), .bool (η.b 0)]) (plain_of (by kernel_rfl)) (by kernel_rfl) (aeSum_ok η) (.cons _ _ _ _ (.int _ _) (.cons _ _ _ _ (.bool _) .nil)) hf (ae_all j k hj hk _) (ae_eq _ _) W
theorem edge_walk (a0 : Int) (a1 : Bool) (w0 : (Lit.int .i64 a0).wf = true) (W : World) :
    Calls Try.prog 3 #[.int .i64 a0, .bool a1] W fun e W' => e = .returned (.bool true) ∧ Below W.heap.size W W' := by
  obtain ⟨j, k, hj, hk, h2⟩ := ae_and a0
  refine ae_call { i := fun _ => a0, b := fun _ => a1 } a0 a1 j k hj hk rfl rfl ?_ W
  intro p hp
  simp only [AeF, List.mem_cons, List.not_mem_nil, or_false] at hp
  rcases hp with rfl | rfl
  · simp only [B.den, E.den, cmpI]
    show (bitsI .and .i64 a0 63 == ((4 * j + k : Nat) : Int)) = true
    rw [h2]; simp
  · rfl
end Go.Proofs.Ythemmbebpkbmbaa.Sx
