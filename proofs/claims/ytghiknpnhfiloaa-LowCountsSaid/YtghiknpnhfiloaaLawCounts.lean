/- LowCounts: all of its ways end in true. -/
import Derived.Test.YtghiknpnhfiloaaLc0
import Derived.Test.YtghiknpnhfiloaaLc1
import Derived.Test.YtghiknpnhfiloaaLc2
import Derived.Test.YtghiknpnhfiloaaLc3
import Derived.Test.YtghiknpnhfiloaaLc4
import Derived.Test.YtghiknpnhfiloaaLc5
import Derived.Test.YtghiknpnhfiloaaLc6
import Derived.Test.YtghiknpnhfiloaaLc7
import Derived.Test.YtghiknpnhfiloaaSzArith
namespace Go.Proofs.Ytghiknpnhfiloaa.Sx
open Go Go.RowKit
set_option linter.unusedVariables false
set_option linter.unusedSimpArgs false
set_option maxRecDepth 100000
theorem lc_all (k : Nat) (hk : k < 32) : lcB k = true := by
  match k, hk with
  | 0, _ => exact lc0
  | 1, _ => exact lc1
  | 2, _ => exact lc2
  | 3, _ => exact lc3
  | 4, _ => exact lc4
  | 5, _ => exact lc5
  | 6, _ => exact lc6
  | 7, _ => exact lc7
  | 8, _ => exact lc8
  | 9, _ => exact lc9
  | 10, _ => exact lc10
  | 11, _ => exact lc11
  | 12, _ => exact lc12
  | 13, _ => exact lc13
  | 14, _ => exact lc14
  | 15, _ => exact lc15
  | 16, _ => exact lc16
  | 17, _ => exact lc17
  | 18, _ => exact lc18
  | 19, _ => exact lc19
  | 20, _ => exact lc20
  | 21, _ => exact lc21
  | 22, _ => exact lc22
  | 23, _ => exact lc23
  | 24, _ => exact lc24
  | 25, _ => exact lc25
  | 26, _ => exact lc26
  | 27, _ => exact lc27
  | 28, _ => exact lc28
  | 29, _ => exact lc29
  | 30, _ => exact lc30
  | 31, _ => exact lc31
  | k + 32, h => exact absurd h (by omega)
theorem lc_wrap (x y : Int) : IntKind.wrap .i32 (IntKind.wrap .i32 x + y) = IntKind.wrap .i32 (x + y) := by
  simp only [wrap_i32]; omega
theorem lcW_den (η : Env) : ∀ (k : Nat) (e : E), (lcW k (.wrap .i32 e)).den η = IntKind.wrap .i32 (e.den η + (k * (k + 1) / 2 : Nat))
  | 0, e => by simp [lcW, E.den]
  | k + 1, e => by
    unfold lcW
    rw [lcW_den η k]
    simp only [E.den]
    rw [Int.add_assoc, lc_wrap]
    congr 2
    have h : (k + 1) * (k + 1 + 1) / 2 = k * (k + 1) / 2 + (k + 1) := by
      have : (k + 1) * (k + 1 + 1) = k * (k + 1) + (k + 1) * 2 := by rw [Nat.mul_comm k (k + 1), ← Nat.mul_add]
      rw [this, Nat.add_mul_div_right _ _ (by omega)]
    rw [h]; omega
theorem lcZ_den (η : Env) (k : Nat) : (lcZ k).den η = IntKind.wrap .i32 (η.i 1 + (k * (k + 1) / 2 : Nat)) := by
  cases k with
  | zero => simp [lcZ, E.den]
  | succ k => simp only [lcZ, E.den]; rw [lc_wrap]
theorem lc_and (a : Int) : ∃ k : Nat, k < 32 ∧ bitsI .and .i64 a 31 = k := by
  have h : bitsI .and .i64 a 31 = a % 32 := bits_and_mask a 5 (by omega)
  exact ⟨(a % 32).toNat, by omega, by rw [h]; omega⟩
theorem counts_walk (a0 a1 : Int) (w0 : (Lit.int .i64 a0).wf = true) (w1 : (Lit.int .i64 a1).wf = true) (W : World) :
    Calls Try.prog 5 #[.int .i64 a0, .int .i64 a1] W fun e W' => e = .returned (.bool true) ∧ Below W.heap.size W W' := by
  obtain ⟨k, hk, hk2⟩ := lc_and a0
  let η : Env := { i := fun n => if n = 0 then a0 else a1 }
  refine law_ok (η := η) (plain_of (by kernel_rfl)) (by kernel_rfl) (wordS_ok _) (args := [.int .i64 (.var 0), .int .i64 (.var 1)]) (args' := [.int .i64 a0, .int .i64 a1])
      (.cons _ _ _ _ (.int _ _) (.cons _ _ _ _ (.int _ _) .nil)) (n := 4000) (facts := lcF k) ?_ ?_ W
  · intro p hp
    simp only [lcF, List.mem_cons, List.not_mem_nil, or_false] at hp
    subst hp
    simp only [B.den, E.den, cmpI]
    show (bitsI .and .i64 a0 31 == (k : Int)) = true
    rw [hk2]; simp
  · rw [← callTopF_eq lc_plans]
    refine T.good_yes (chkT_ok (lc_all k hk) ?_)
    rw [lcW_den, lcZ_den]
    rfl
end Go.Proofs.Ytghiknpnhfiloaa.Sx
