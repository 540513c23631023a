/- Arithmetic of the executor's terms. -/
import Derived.Test.YtbobnbndbgpanaaGreatSzTop
namespace Go.Proofs.YtbobnbndbgpanaaGreat.Sx
open Go
set_option linter.unusedVariables false
set_option linter.unusedSimpArgs false
noncomputable section

theorem shN_lit (k : IntKind) (n : Nat) (h : n ≤ k.bits) : shN k (n : Int) = n := by
  unfold shN; simp; omega
theorem ofInt_toNat (x : Int) : (BitVec.ofInt 64 x).toNat = (x % 18446744073709551616).toNat := by
  simp [BitVec.toNat_ofInt]
theorem bits_and_mask (x : Int) (n : Nat) (h : n ≤ 62) : bitsI .and .i64 x (2 ^ n - 1) = x % 2 ^ n := by
  show IntKind.i64.wrap ((BitVec.ofInt 64 x &&& BitVec.ofInt 64 (2 ^ n - 1) : BitVec 64).toNat : Int) = x % 2 ^ n
  rw [BitVec.toNat_and, ofInt_toNat, ofInt_toNat]
  have hp : (0 : Nat) < 2 ^ n := Nat.two_pow_pos n
  have hle : (2 : Nat) ^ n ≤ 2 ^ 62 := Nat.pow_le_pow_right (by omega) h
  have e1 : (((2 : Int) ^ n - 1) % 18446744073709551616).toNat = 2 ^ n - 1 := by
    have : ((2 : Int) ^ n) = ((2 ^ n : Nat) : Int) := by simp
    rw [this]
    omega
  rw [e1, Nat.and_two_pow_sub_one_eq_mod]
  have e2 : ((((x % 18446744073709551616).toNat % 2 ^ n : Nat)) : Int) = x % 2 ^ n := by
    rw [Int.natCast_emod, Int.toNat_of_nonneg (by omega)]
    have hd : (2 : Int) ^ n ∣ 18446744073709551616 := by
      have : (18446744073709551616 : Int) = 2 ^ n * 2 ^ (64 - n) := by
        rw [← Int.pow_add]; rw [show n + (64 - n) = 64 by omega]; rfl
      exact ⟨_, this⟩
    simpa using Int.emod_emod_of_dvd x hd
  rw [e2]
  have hq : ((2 : Int) ^ n) = ((2 ^ n : Nat) : Int) := by simp
  have h0 : 0 ≤ x % 2 ^ n := Int.emod_nonneg _ (by omega)
  have h1 : x % 2 ^ n < 2 ^ n := Int.emod_lt_of_pos _ (by omega)
  rw [wrap_i64]
  omega
theorem and_255 (x : Int) : bitsI .and .i64 x 255 = x % 256 := bits_and_mask x 8 (by omega)
theorem and_65535 (x : Int) : bitsI .and .i64 x 65535 = x % 65536 := bits_and_mask x 16 (by omega)
theorem and_4294967295 (x : Int) : bitsI .and .i64 x 4294967295 = x % 4294967296 := bits_and_mask x 32 (by omega)
theorem and_7 (x : Int) : bitsI .and .i64 x 7 = x % 8 := bits_and_mask x 3 (by omega)

theorem factsOf_neg {η : Env} {e : E} (h : e.den η < 0) : ∀ p ∈ factsOf e (-1), p.1.den η = p.2 := by
  intro p hp
  simp only [factsOf, List.mem_cons, List.not_mem_nil, or_false] at hp
  rcases hp with rfl | rfl | rfl | rfl | rfl | rfl | rfl | rfl | rfl | rfl | rfl | rfl | rfl <;> simp only [B.den, E.den] <;> rw [Bool.eq_iff_iff] <;> simp only [cmpI_iff, propI] <;> omega
theorem factsOf_big {η : Env} {e : E} (h : 8 < e.den η) : ∀ p ∈ factsOf e 9, p.1.den η = p.2 := by
  intro p hp
  simp only [factsOf, List.mem_cons, List.not_mem_nil, or_false] at hp
  rcases hp with rfl | rfl | rfl | rfl | rfl | rfl | rfl | rfl | rfl | rfl | rfl | rfl | rfl <;> simp only [B.den, E.den] <;> rw [Bool.eq_iff_iff] <;> simp only [cmpI_iff, propI] <;> omega
theorem wf_i64 {n : Int} (h : (Lit.int .i64 n).wf = true) : -9223372036854775808 ≤ n ∧ n ≤ 9223372036854775807 := by
  simp [Lit.wf, IntKind.min, IntKind.max, IntKind.signed, IntKind.bits] at h
  omega
theorem tmod_eq (x n : Int) : x.tmod n = if 0 ≤ x then x % n else -((-x) % n) := by
  split
  · exact Int.tmod_eq_emod_of_nonneg (by assumption)
  · have h := Int.neg_tmod x n
    have h2 := Int.tmod_eq_emod_of_nonneg (a := -x) (b := n) (by omega)
    omega
theorem tdiv_eq (x n : Int) : x.tdiv n = if 0 ≤ x then x / n else -((-x) / n) := by
  split
  · exact Int.tdiv_eq_ediv_of_nonneg (by assumption)
  · have h := Int.neg_tdiv x n
    have h2 := Int.tdiv_eq_ediv_of_nonneg (a := -x) (b := n) (by omega)
    omega
theorem tmod_mod (x n : Int) (h : 0 < n) : (x.tmod n + n).tmod n = x % n := by
  have h1 : 0 ≤ x.tmod n + n := by
    have h2 := Int.neg_tmod x n
    have h3 := Int.tmod_lt_of_pos (-x) h
    omega
  rw [Int.tmod_eq_emod_of_nonneg h1, Int.add_emod_right, Int.tmod_def, Int.sub_emod, Int.mul_emod_right]
  simp
theorem tmod_mod256 (x : Int) : (x.tmod 256 + 256).tmod 256 = x % 256 := tmod_mod x 256 (by omega)
theorem tmod_mod65536 (x : Int) : (x.tmod 65536 + 65536).tmod 65536 = x % 65536 := tmod_mod x 65536 (by omega)
theorem tmod_mod4294967296 (x : Int) : (x.tmod 4294967296 + 4294967296).tmod 4294967296 = x % 4294967296 := tmod_mod x 4294967296 (by omega)
theorem sh8 : (2 : Int) ^ shN .i64 8 = 256 := rfl
theorem sh16 : (2 : Int) ^ shN .i64 16 = 65536 := rfl
theorem sh32 : (2 : Int) ^ shN .i64 32 = 4294967296 := rfl
end
end Go.Proofs.YtbobnbndbgpanaaGreat.Sx
