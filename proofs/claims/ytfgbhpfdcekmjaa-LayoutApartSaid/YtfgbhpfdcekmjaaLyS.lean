/- layout.Split and Fits. -/
import Derived.Test.YtfgbhpfdcekmjaaLyA
import Derived.Laws.Bits128
namespace Go.Proofs.Ytfgbhpfdcekmjaa.W
open Go Go.RowKit Go.Proofs
set_option linter.unusedVariables false
set_option linter.unusedSimpArgs false
theorem i64_and20 (n : Int) : bits .and .i64 n 1048575 = n % 1048576 := by
  have h127 : (BitVec.ofInt 64 1048575).toNat = 2 ^ 20 - 1 := by decide
  have key : (BitVec.ofInt 64 n &&& BitVec.ofInt 64 1048575).toNat = (n % ((2 ^ 64 : Nat) : Int)).toNat % 2 ^ 20 := by
    rw [BitVec.toNat_and, BitVec.toNat_ofInt, h127, Nat.and_two_pow_sub_one_eq_mod]
  show IntKind.i64.wrap ((BitVec.ofInt 64 n &&& BitVec.ofInt 64 1048575).toNat : Nat) = n % 1048576
  rw [key, IntKind.wrap_i64]
  omega
theorem split_num (a x l u : Int) (hx : x = wrap32 a) (hl : l = wrap64 (wrap32 (x * 1048576) / 1048576)) (hu : u = (wrap32 (x - wrap32 l) % 4294967296 / 4096) % 1048576) :
    0 ≤ u ∧ u < 1048576 ∧ -2048 ≤ l ∧ l < 2048 ∧ (u * 4096 + l - a) % 4294967296 = 0 := by
  have hx1 : -2147483648 ≤ x ∧ x < 2147483648 ∧ (x - a) % 4294967296 = 0 := by rw [hx]; unfold wrap32; omega
  clear hx
  obtain ⟨q, hq⟩ : ∃ q, wrap32 (x * 1048576) = q := ⟨_, rfl⟩
  rw [hq] at hl
  have hq1 : -2147483648 ≤ q ∧ q < 2147483648 ∧ (q - x * 1048576) % 4294967296 = 0 := by rw [← hq]; unfold wrap32; omega
  clear hq
  have hl1 : l = q / 1048576 := by rw [hl]; unfold wrap64; omega
  clear hl
  have hq2 : q % 1048576 = 0 := by omega
  have hl2 : q = l * 1048576 := by omega
  have hl3 : -2048 ≤ l ∧ l < 2048 := by omega
  have hl4 : (l - x) % 4096 = 0 := by omega
  have hw : wrap32 l = l := by unfold wrap32; omega
  rw [hw] at hu
  obtain ⟨y, hy⟩ : ∃ y, wrap32 (x - l) = y := ⟨_, rfl⟩
  rw [hy] at hu
  have hy1 : (y - (x - l)) % 4294967296 = 0 := by rw [← hy]; unfold wrap32; omega
  clear hy hq1 hl1 hq2 hl2
  have hy2 : y % 4096 = 0 := by omega
  obtain ⟨z, hz⟩ : ∃ z, y % 4294967296 = z := ⟨_, rfl⟩
  rw [hz] at hu
  have hz1 : 0 ≤ z ∧ z < 4294967296 ∧ (z - y) % 4294967296 = 0 := by omega
  have hz2 : z % 4096 = 0 := by omega
  have hu2 : u * 4096 = z := by omega
  refine ⟨by omega, by omega, hl3.1, hl3.2, ?_⟩
  rw [hu2]
  omega
theorem split_calls (a : Int) (W : World) :
    Calls Try.prog 5 #[.int .i64 a] W fun e w' => ∃ u l : Int, e = .returned (.tuple #[.int .i64 u, .int .i64 l]) ∧ w' = W ∧ 0 ≤ u ∧ u < 1048576 ∧ -2048 ≤ l ∧ l < 2048 ∧ (u * 4096 + l - a) % 4294967296 = 0 := by
  go_enter Try.func5, Try.ntmps5
  go_wp2
  go_ret2
  rw [i64_and20]
  exact ⟨_, _, rfl, rfl, split_num a _ _ _ rfl rfl rfl⟩
theorem fits_calls (l : Int) (W : World) (h1 : -2048 ≤ l) (h2 : l < 2048) :
    Calls Try.prog 6 #[.int .i64 l, .bool false] W fun e w' => e = .returned (.bool true) ∧ w' = W := by
  go_enter Try.func6, Try.ntmps6
  go_wp2
  go_ret
  exact ⟨rfl, rfl⟩
end Go.Proofs.Ytfgbhpfdcekmjaa.W
