/- Instructions: bits as numbers. -/
import Derived.Test.YtloihfdiabbcpaaProg
import Derived.Test.YtloihfdiabbcpaaSxSum
import Derived.Test.YtloihfdiabbcpaaInEnc
namespace Go.Proofs.Ytloihfdiabbcpaa.Sx
open Go Go.RowKit
set_option linter.unusedVariables false
set_option linter.unusedSimpArgs false
set_option maxRecDepth 100000
theorem two_cast (m : Nat) : ((2 : Int) ^ m) = ((2 ^ m : Nat) : Int) := by simp
theorem two_pos (m : Nat) : (0 : Int) < 2 ^ m := by rw [two_cast]; have := Nat.two_pow_pos m; omega
theorem two_sub (m : Nat) : ((2 : Int) ^ m - 1) = ((2 ^ m - 1 : Nat) : Int) := by rw [two_cast]; have := Nat.two_pow_pos m; omega
theorem u32_nat {x : Int} (h : 0 ≤ x ∧ x < 4294967296) : (BitVec.ofInt 32 x).toNat = x.toNat := by
  rw [BitVec.toNat_ofInt]; simp; omega
theorem bits_or {x y : Int} (hx : 0 ≤ x ∧ x < 4294967296) (hy : 0 ≤ y ∧ y < 4294967296) : bitsI .or .u32 x y = ((x.toNat ||| y.toNat : Nat) : Int) := by
  show IntKind.u32.wrap ((BitVec.ofInt 32 x ||| BitVec.ofInt 32 y : BitVec 32).toNat : Int) = _
  rw [BitVec.toNat_or, u32_nat hx, u32_nat hy, wrap_u32]
  have : x.toNat ||| y.toNat < 2 ^ 32 := Nat.or_lt_two_pow (by omega) (by omega)
  omega
theorem bits_and {x y : Int} (hx : 0 ≤ x ∧ x < 4294967296) (hy : 0 ≤ y ∧ y < 4294967296) : bitsI .and .u32 x y = ((x.toNat &&& y.toNat : Nat) : Int) := by
  show IntKind.u32.wrap ((BitVec.ofInt 32 x &&& BitVec.ofInt 32 y : BitVec 32).toNat : Int) = _
  rw [BitVec.toNat_and, u32_nat hx, u32_nat hy, wrap_u32]
  have : x.toNat &&& y.toNat < 2 ^ 32 := Nat.and_lt_two_pow _ (by omega)
  omega
/-- Bits that stand where none are. -/
theorem nat_or (x k p m : Nat) (hk : k < 2 ^ m) (h : x / 2 ^ p % 2 ^ m = 0) : x ||| (k * 2 ^ p) = x + k * 2 ^ p := by
  have hp : 0 < 2 ^ p := Nat.two_pow_pos p
  have hm : 0 < 2 ^ m := Nat.two_pow_pos m
  have e1 : x = 2 ^ (p + m) * (x / 2 ^ p / 2 ^ m) + x % 2 ^ p := by
    have h1 := Nat.div_add_mod x (2 ^ p)
    have h2 := Nat.div_add_mod (x / 2 ^ p) (2 ^ m)
    rw [h, Nat.add_zero] at h2
    rw [Nat.pow_add, Nat.mul_assoc, h2]; omega
  have hlo : x % 2 ^ p < 2 ^ p := Nat.mod_lt _ hp
  have hlo2 : x % 2 ^ p < 2 ^ (p + m) := Nat.lt_of_lt_of_le hlo (Nat.pow_le_pow_right (by omega) (by omega))
  have e2 : 2 ^ p * k ||| x % 2 ^ p = 2 ^ p * k + x % 2 ^ p := (Nat.two_pow_add_eq_or_of_lt hlo k).symm
  have hlt : 2 ^ p * k + x % 2 ^ p < 2 ^ (p + m) := by
    rw [Nat.pow_add]
    have : 2 ^ p * (k + 1) ≤ 2 ^ p * 2 ^ m := Nat.mul_le_mul_left _ hk
    rw [Nat.mul_add] at this; omega
  generalize hH : x / 2 ^ p / 2 ^ m = H at e1
  have e3 : x = 2 ^ (p + m) * H ||| x % 2 ^ p := by
    rw [← Nat.two_pow_add_eq_or_of_lt hlo2]; exact e1
  rw [Nat.mul_comm k]
  calc x ||| 2 ^ p * k = (2 ^ (p + m) * H ||| x % 2 ^ p) ||| 2 ^ p * k := by rw [← e3]
    _ = 2 ^ (p + m) * H ||| (2 ^ p * k ||| x % 2 ^ p) := by rw [Nat.or_assoc, Nat.or_comm (x % 2 ^ p)]
    _ = 2 ^ (p + m) * H + (2 ^ p * k + x % 2 ^ p) := by rw [e2, Nat.two_pow_add_eq_or_of_lt hlt]
    _ = x + 2 ^ p * k := by omega
theorem or_add {x k : Int} (p m : Nat) (hx : 0 ≤ x ∧ x < 4294967296) (hk : 0 ≤ k ∧ k < 2 ^ m) (hpm : p + m ≤ 32) (h : x / 2 ^ p % 2 ^ m = 0) : bitsI .or .u32 x (k * 2 ^ p) = x + k * 2 ^ p := by
  obtain ⟨k, rfl⟩ := Int.eq_ofNat_of_zero_le hk.1
  obtain ⟨x, rfl⟩ := Int.eq_ofNat_of_zero_le hx.1
  have hk' : k < 2 ^ m := by exact_mod_cast hk.2
  have h' : x / 2 ^ p % 2 ^ m = 0 := by exact_mod_cast h
  have hb : k * 2 ^ p < 2 ^ 32 := by
    have h1 : k * 2 ^ p < 2 ^ m * 2 ^ p := Nat.mul_lt_mul_of_pos_right hk' (Nat.two_pow_pos p)
    have h2 : 2 ^ m * 2 ^ p ≤ 2 ^ 32 := by rw [← Nat.pow_add]; exact Nat.pow_le_pow_right (by omega) (by omega)
    omega
  have hc : (k : Int) * 2 ^ p = ((k * 2 ^ p : Nat) : Int) := by simp
  rw [hc, bits_or hx (by omega)]
  simp only [Int.toNat_natCast]
  rw [nat_or x k p m hk' h']; simp
theorem or_zero {x : Int} (hx : 0 ≤ x ∧ x < 4294967296) : bitsI .or .u32 x 0 = x := by
  rw [bits_or hx (by omega)]; simp; omega
theorem and_low {x : Int} (m : Nat) (hx : 0 ≤ x ∧ x < 4294967296) (hm : m ≤ 32) : bitsI .and .u32 x (2 ^ m - 1) = x % 2 ^ m := by
  obtain ⟨x, rfl⟩ := Int.eq_ofNat_of_zero_le hx.1
  have hp := Nat.two_pow_pos m
  have hle : 2 ^ m ≤ 2 ^ 32 := Nat.pow_le_pow_right (by omega) hm
  have e := two_sub m
  rw [e, bits_and hx (by omega)]
  simp only [Int.toNat_natCast, Nat.and_two_pow_sub_one_eq_mod]; simp
theorem shr_div (x : Int) (p : Nat) (h : p ≤ 32) : x.fdiv (2 ^ shN .u32 (p : Int)) = x / 2 ^ p := by
  rw [shN_lit .u32 p (by simp [IntKind.bits]; omega), Int.fdiv_eq_ediv_of_nonneg _ (Int.le_of_lt (two_pos p))]
/-- A piece of a word. -/
theorem part {x : Int} (p m : Nat) (hx : 0 ≤ x ∧ x < 4294967296) (hp : p ≤ 32) (hm : m ≤ 32) : bitsI .and .u32 (x.fdiv (2 ^ shN .u32 (p : Int))) (2 ^ m - 1) = x / 2 ^ p % 2 ^ m := by
  rw [shr_div x p hp]
  have h1 := two_pos p
  exact and_low m ⟨Int.ediv_nonneg hx.1 (by omega), Int.lt_of_le_of_lt (Int.ediv_le_self _ hx.1) hx.2⟩ hm
theorem shl_mul {x : Int} (p m : Nat) (hx : 0 ≤ x ∧ x < 2 ^ m) (h : p + m ≤ 32) : shL (p : Int) x = x * 2 ^ p := by
  unfold shL
  rw [shN_lit .u32 p (by simp [IntKind.bits]; omega), wrap_u32]
  obtain ⟨x, rfl⟩ := Int.eq_ofNat_of_zero_le hx.1
  have hk' : x < 2 ^ m := by exact_mod_cast hx.2
  have hb : x * 2 ^ p < 2 ^ 32 := by
    have h1 : x * 2 ^ p < 2 ^ m * 2 ^ p := Nat.mul_lt_mul_of_pos_right hk' (Nat.two_pow_pos p)
    have h2 : 2 ^ m * 2 ^ p ≤ 2 ^ 32 := by rw [← Nat.pow_add]; exact Nat.pow_le_pow_right (by omega) (by omega)
    omega
  have hc : (x : Int) * 2 ^ p = ((x * 2 ^ p : Nat) : Int) := by simp
  rw [hc]; omega
theorem regW_eq {k : Int} (p : Nat) (hk : 0 ≤ k ∧ k < 32) (hp : p ≤ 27) : regW (p : Int) k = k * 2 ^ p := by
  unfold regW
  have e : bitsI .and .i64 k 31 = k := by rw [show (31 : Int) = 2 ^ 5 - 1 from rfl, bits_and_mask k 5 (by omega)]; omega
  rw [e, wrap_u32, show k % 4294967296 = k by omega]
  exact shl_mul p 5 (by omega) (by omega)
theorem pcW_eq {n : Int} (f m q : Nat) (hf : f ≤ 32) (h : q + m ≤ 32) : pcW n ((f : Int), 2 ^ m - 1, (q : Int)) = (n % 4294967296 / 2 ^ f % 2 ^ m) * 2 ^ q := by
  unfold pcW
  simp only
  rw [wrap_u32, part f m (by omega) hf (by omega)]
  have hm := two_pos m
  exact shl_mul q m ⟨Int.emod_nonneg _ (by omega), Int.emod_lt_of_pos _ hm⟩ h
end Go.Proofs.Ytloihfdiabbcpaa.Sx
