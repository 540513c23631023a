/- BorrowApart: all of its ways end in true. -/
import Derived.Test.YtbobnbndbgpanaaGreatBa0
import Derived.Test.YtbobnbndbgpanaaGreatBa1
import Derived.Test.YtbobnbndbgpanaaGreatBa2
import Derived.Test.YtbobnbndbgpanaaGreatBa3
import Derived.Test.YtbobnbndbgpanaaGreatBa4
import Derived.Test.YtbobnbndbgpanaaGreatBa5
import Derived.Test.YtbobnbndbgpanaaGreatBa6
import Derived.Test.YtbobnbndbgpanaaGreatBa7
import Derived.Test.YtbobnbndbgpanaaGreatBa8
import Derived.Test.YtbobnbndbgpanaaGreatBa9
import Derived.Test.YtbobnbndbgpanaaGreatBa10
import Derived.Test.YtbobnbndbgpanaaGreatBa11
import Derived.Test.YtbobnbndbgpanaaGreatBa12
import Derived.Test.YtbobnbndbgpanaaGreatBa13
import Derived.Test.YtbobnbndbgpanaaGreatBa14
import Derived.Test.YtbobnbndbgpanaaGreatBa15
import Derived.Test.YtbobnbndbgpanaaGreatSzArith
namespace Go.Proofs.YtbobnbndbgpanaaGreat.Sx
open Go Go.RowKit
set_option linter.unusedVariables false
set_option linter.unusedSimpArgs false
theorem ba_all0 (m : Nat) (hm : m < 8) (s : Bool) : BaP 0 m s := by
  match m, hm, s with
  | 0, _, true => exact rBa_0_0_true
  | 0, _, false => exact rBa_0_0_false
  | 1, _, true => exact rBa_0_1_true
  | 1, _, false => exact rBa_0_1_false
  | 2, _, true => exact rBa_0_2_true
  | 2, _, false => exact rBa_0_2_false
  | 3, _, true => exact rBa_0_3_true
  | 3, _, false => exact rBa_0_3_false
  | 4, _, true => exact rBa_0_4_true
  | 4, _, false => exact rBa_0_4_false
  | 5, _, true => exact rBa_0_5_true
  | 5, _, false => exact rBa_0_5_false
  | 6, _, true => exact rBa_0_6_true
  | 6, _, false => exact rBa_0_6_false
  | 7, _, true => exact rBa_0_7_true
  | 7, _, false => exact rBa_0_7_false
  | m + 8, h, _ => exact absurd h (by omega)
theorem ba_all1 (m : Nat) (hm : m < 8) (s : Bool) : BaP 1 m s := by
  match m, hm, s with
  | 0, _, true => exact rBa_1_0_true
  | 0, _, false => exact rBa_1_0_false
  | 1, _, true => exact rBa_1_1_true
  | 1, _, false => exact rBa_1_1_false
  | 2, _, true => exact rBa_1_2_true
  | 2, _, false => exact rBa_1_2_false
  | 3, _, true => exact rBa_1_3_true
  | 3, _, false => exact rBa_1_3_false
  | 4, _, true => exact rBa_1_4_true
  | 4, _, false => exact rBa_1_4_false
  | 5, _, true => exact rBa_1_5_true
  | 5, _, false => exact rBa_1_5_false
  | 6, _, true => exact rBa_1_6_true
  | 6, _, false => exact rBa_1_6_false
  | 7, _, true => exact rBa_1_7_true
  | 7, _, false => exact rBa_1_7_false
  | m + 8, h, _ => exact absurd h (by omega)
theorem ba_all2 (m : Nat) (hm : m < 8) (s : Bool) : BaP 2 m s := by
  match m, hm, s with
  | 0, _, true => exact rBa_2_0_true
  | 0, _, false => exact rBa_2_0_false
  | 1, _, true => exact rBa_2_1_true
  | 1, _, false => exact rBa_2_1_false
  | 2, _, true => exact rBa_2_2_true
  | 2, _, false => exact rBa_2_2_false
  | 3, _, true => exact rBa_2_3_true
  | 3, _, false => exact rBa_2_3_false
  | 4, _, true => exact rBa_2_4_true
  | 4, _, false => exact rBa_2_4_false
  | 5, _, true => exact rBa_2_5_true
  | 5, _, false => exact rBa_2_5_false
  | 6, _, true => exact rBa_2_6_true
  | 6, _, false => exact rBa_2_6_false
  | 7, _, true => exact rBa_2_7_true
  | 7, _, false => exact rBa_2_7_false
  | m + 8, h, _ => exact absurd h (by omega)
theorem ba_all3 (m : Nat) (hm : m < 8) (s : Bool) : BaP 3 m s := by
  match m, hm, s with
  | 0, _, true => exact rBa_3_0_true
  | 0, _, false => exact rBa_3_0_false
  | 1, _, true => exact rBa_3_1_true
  | 1, _, false => exact rBa_3_1_false
  | 2, _, true => exact rBa_3_2_true
  | 2, _, false => exact rBa_3_2_false
  | 3, _, true => exact rBa_3_3_true
  | 3, _, false => exact rBa_3_3_false
  | 4, _, true => exact rBa_3_4_true
  | 4, _, false => exact rBa_3_4_false
  | 5, _, true => exact rBa_3_5_true
  | 5, _, false => exact rBa_3_5_false
  | 6, _, true => exact rBa_3_6_true
  | 6, _, false => exact rBa_3_6_false
  | 7, _, true => exact rBa_3_7_true
  | 7, _, false => exact rBa_3_7_false
  | m + 8, h, _ => exact absurd h (by omega)
theorem ba_all4 (m : Nat) (hm : m < 8) (s : Bool) : BaP 4 m s := by
  match m, hm, s with
  | 0, _, true => exact rBa_4_0_true
  | 0, _, false => exact rBa_4_0_false
  | 1, _, true => exact rBa_4_1_true
  | 1, _, false => exact rBa_4_1_false
  | 2, _, true => exact rBa_4_2_true
  | 2, _, false => exact rBa_4_2_false
  | 3, _, true => exact rBa_4_3_true
  | 3, _, false => exact rBa_4_3_false
  | 4, _, true => exact rBa_4_4_true
  | 4, _, false => exact rBa_4_4_false
  | 5, _, true => exact rBa_4_5_true
  | 5, _, false => exact rBa_4_5_false
  | 6, _, true => exact rBa_4_6_true
  | 6, _, false => exact rBa_4_6_false
  | 7, _, true => exact rBa_4_7_true
  | 7, _, false => exact rBa_4_7_false
  | m + 8, h, _ => exact absurd h (by omega)
theorem ba_all5 (m : Nat) (hm : m < 8) (s : Bool) : BaP 5 m s := by
  match m, hm, s with
  | 0, _, true => exact rBa_5_0_true
  | 0, _, false => exact rBa_5_0_false
  | 1, _, true => exact rBa_5_1_true
  | 1, _, false => exact rBa_5_1_false
  | 2, _, true => exact rBa_5_2_true
  | 2, _, false => exact rBa_5_2_false
  | 3, _, true => exact rBa_5_3_true
  | 3, _, false => exact rBa_5_3_false
  | 4, _, true => exact rBa_5_4_true
  | 4, _, false => exact rBa_5_4_false
  | 5, _, true => exact rBa_5_5_true
  | 5, _, false => exact rBa_5_5_false
  | 6, _, true => exact rBa_5_6_true
  | 6, _, false => exact rBa_5_6_false
  | 7, _, true => exact rBa_5_7_true
  | 7, _, false => exact rBa_5_7_false
  | m + 8, h, _ => exact absurd h (by omega)
theorem ba_all6 (m : Nat) (hm : m < 8) (s : Bool) : BaP 6 m s := by
  match m, hm, s with
  | 0, _, true => exact rBa_6_0_true
  | 0, _, false => exact rBa_6_0_false
  | 1, _, true => exact rBa_6_1_true
  | 1, _, false => exact rBa_6_1_false
  | 2, _, true => exact rBa_6_2_true
  | 2, _, false => exact rBa_6_2_false
  | 3, _, true => exact rBa_6_3_true
  | 3, _, false => exact rBa_6_3_false
  | 4, _, true => exact rBa_6_4_true
  | 4, _, false => exact rBa_6_4_false
  | 5, _, true => exact rBa_6_5_true
  | 5, _, false => exact rBa_6_5_false
  | 6, _, true => exact rBa_6_6_true
  | 6, _, false => exact rBa_6_6_false
  | 7, _, true => exact rBa_6_7_true
  | 7, _, false => exact rBa_6_7_false
  | m + 8, h, _ => exact absurd h (by omega)
theorem ba_all7 (m : Nat) (hm : m < 8) (s : Bool) : BaP 7 m s := by
  match m, hm, s with
  | 0, _, true => exact rBa_7_0_true
  | 0, _, false => exact rBa_7_0_false
  | 1, _, true => exact rBa_7_1_true
  | 1, _, false => exact rBa_7_1_false
  | 2, _, true => exact rBa_7_2_true
  | 2, _, false => exact rBa_7_2_false
  | 3, _, true => exact rBa_7_3_true
  | 3, _, false => exact rBa_7_3_false
  | 4, _, true => exact rBa_7_4_true
  | 4, _, false => exact rBa_7_4_false
  | 5, _, true => exact rBa_7_5_true
  | 5, _, false => exact rBa_7_5_false
  | 6, _, true => exact rBa_7_6_true
  | 6, _, false => exact rBa_7_6_false
  | 7, _, true => exact rBa_7_7_true
  | 7, _, false => exact rBa_7_7_false
  | m + 8, h, _ => exact absurd h (by omega)
theorem ba_all (k m : Nat) (hk : k < 8) (hm : m < 8) (s : Bool) : BaP k m s := by
  match k, hk with
  | 0, _ => exact ba_all0 m hm s
  | 1, _ => exact ba_all1 m hm s
  | 2, _ => exact ba_all2 m hm s
  | 3, _ => exact ba_all3 m hm s
  | 4, _ => exact ba_all4 m hm s
  | 5, _ => exact ba_all5 m hm s
  | 6, _ => exact ba_all6 m hm s
  | 7, _ => exact ba_all7 m hm s
  | k + 8, h => exact absurd h (by omega)
theorem ba_and (a : Int) : ∃ k : Nat, k < 8 ∧ bitsI .and .i64 a 7 = k := by
  have h : bitsI .and .i64 a 7 = a % 8 := bits_and_mask a 3 (by omega)
  exact ⟨(a % 8).toNat, by omega, by rw [h]; omega⟩
theorem ba_call (η : Env) (a0 a1 : Int) (a2 : Bool) (k m : Nat) (hk : k < 8) (hm : m < 8) (h0 : η.i 0 = a0) (h1 : η.i 1 = a1) (h2 : η.b 0 = a2) (hf : ∀ p ∈ BaF k m a2, p.1.den η = p.2) (W : World) :
    Calls Tryz.prog 4 #[.int .i64 a0, .int .i64 a1, .bool a2] W fun e W' => e = .returned (.bool true) ∧ Below W.heap.size W W' := by
  subst h0 h1 h2
  exact law_true (η := η) (args' := [.int .i64 (η.i 0), .int .i64 (η.i 1), .bool (η.b 0)]) (plain_of (by kernel_rfl)) (by kernel_rfl) (puSum_ok η) (.cons _ _ _ _ (.int _ _) (.cons _ _ _ _ (.int _ _) (.cons _ _ _ _ (.bool _) .nil))) hf (ba_all k m hk hm _) (ba_eq k m _) W
theorem apart_walk (a0 a1 : Int) (a2 : Bool) (w0 : (Lit.int .i64 a0).wf = true) (w1 : (Lit.int .i64 a1).wf = true) (W : World) :
    Calls Tryz.prog 4 #[.int .i64 a0, .int .i64 a1, .bool a2] W fun e W' => e = .returned (.bool true) ∧ Below W.heap.size W W' := by
  obtain ⟨k, hk, hk2⟩ := ba_and a0
  obtain ⟨m, hm, hm2⟩ := ba_and a1
  refine ba_call { i := fun n => if n = 0 then a0 else a1, b := fun _ => a2 } a0 a1 a2 k m hk hm rfl rfl rfl ?_ W
  intro p hp
  simp only [BaF, List.mem_cons, List.not_mem_nil, or_false] at hp
  rcases hp with rfl | rfl | rfl
  · simp only [B.den, E.den, cmpI]
    show (bitsI .and .i64 a0 7 == (k : Int)) = true
    rw [hk2]; simp
  · simp only [B.den, E.den, cmpI]
    show (bitsI .and .i64 a1 7 == (m : Int)) = true
    rw [hm2]; simp
  · rfl
end Go.Proofs.YtbobnbndbgpanaaGreat.Sx
