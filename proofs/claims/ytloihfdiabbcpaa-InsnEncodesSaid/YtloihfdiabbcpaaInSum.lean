/- Instructions: words as sums. -/
import Derived.Test.YtloihfdiabbcpaaProg
import Derived.Test.YtloihfdiabbcpaaSxSum
import Derived.Test.YtloihfdiabbcpaaInAr
namespace Go.Proofs.Ytloihfdiabbcpaa.Sx
open Go Go.RowKit
set_option linter.unusedVariables false
set_option linter.unusedSimpArgs false
set_option maxRecDepth 100000
theorem bits_or64 {x y : Int} (hx : 0 ≤ x ∧ x < 4294967296) (hy : 0 ≤ y ∧ y < 4294967296) : bitsI .or .i64 x y = ((x.toNat ||| y.toNat : Nat) : Int) := by
  show IntKind.i64.wrap ((BitVec.ofInt 64 x ||| BitVec.ofInt 64 y : BitVec 64).toNat : Int) = _
  have ex : (BitVec.ofInt 64 x).toNat = x.toNat := by rw [ofInt_toNat]; omega
  have ey : (BitVec.ofInt 64 y).toNat = y.toNat := by rw [ofInt_toNat]; omega
  rw [BitVec.toNat_or, ex, ey, wrap_i64]
  have : x.toNat ||| y.toNat < 2 ^ 32 := Nat.or_lt_two_pow (by omega) (by omega)
  omega
theorem or_add64 {x k : Int} (p m : Nat) (hx : 0 ≤ x ∧ x < 4294967296) (hk : 0 ≤ k ∧ k < 2 ^ m) (hpm : p + m ≤ 32) (h : x / 2 ^ p % 2 ^ m = 0) : bitsI .or .i64 x (k * 2 ^ p) = x + k * 2 ^ p := by
  rw [← or_add p m hx hk hpm h]
  obtain ⟨k, rfl⟩ := Int.eq_ofNat_of_zero_le hk.1
  have hk' : k < 2 ^ m := by exact_mod_cast hk.2
  have hb : k * 2 ^ p < 2 ^ 32 := by
    have h1 : k * 2 ^ p < 2 ^ m * 2 ^ p := Nat.mul_lt_mul_of_pos_right hk' (Nat.two_pow_pos p)
    have h2 : 2 ^ m * 2 ^ p ≤ 2 ^ 32 := by rw [← Nat.pow_add]; exact Nat.pow_le_pow_right (by omega) (by omega)
    omega
  have hc : (k : Int) * 2 ^ p = ((k * 2 ^ p : Nat) : Int) := by simp
  rw [hc, bits_or hx (by omega), bits_or64 hx (by omega)]
/-- A piece of a word, laid into a number. -/
theorem npc {w : Int} (f m q : Nat) (hw : 0 ≤ w ∧ w < 4294967296) (hq : q ≤ 32) (h : f + m ≤ 32) : IntKind.i64.wrap (bitsI .and .u32 (w.fdiv (2 ^ shN .u32 (q : Int))) (2 ^ m - 1) * 2 ^ shN .i64 (f : Int)) = (w / 2 ^ q % 2 ^ m) * 2 ^ f := by
  rw [part q m hw hq (by omega), shN_lit .i64 f (by simp [IntKind.bits]; omega)]
  have hm := two_pos m
  obtain ⟨k, hk⟩ := Int.eq_ofNat_of_zero_le (Int.emod_nonneg (w / 2 ^ q) (b := 2 ^ m) (by omega))
  have hlt := Int.emod_lt_of_pos (w / 2 ^ q) hm
  rw [hk] at hlt ⊢
  have hk' : k < 2 ^ m := by exact_mod_cast hlt
  have hb : k * 2 ^ f < 2 ^ 32 := by
    have h1 : k * 2 ^ f < 2 ^ m * 2 ^ f := Nat.mul_lt_mul_of_pos_right hk' (Nat.two_pow_pos f)
    have h2 : 2 ^ m * 2 ^ f ≤ 2 ^ 32 := by rw [← Nat.pow_add]; exact Nat.pow_le_pow_right (by omega) (by omega)
    omega
  have hc : (k : Int) * 2 ^ f = ((k * 2 ^ f : Nat) : Int) := by simp
  rw [hc, wrap_i64]; omega
theorem reg_7 {k : Int} (hk : 0 ≤ k ∧ k < 32) : regW 7 k = k * 128 := by have h := regW_eq 7 hk (by omega); simpa using h
theorem reg_15 {k : Int} (hk : 0 ≤ k ∧ k < 32) : regW 15 k = k * 32768 := by have h := regW_eq 15 hk (by omega); simpa using h
theorem reg_20 {k : Int} (hk : 0 ≤ k ∧ k < 32) : regW 20 k = k * 1048576 := by have h := regW_eq 20 hk (by omega); simpa using h
theorem pc_0_20_12 (n : Int) : pcW n (0, 1048575, 12) = (n % 4294967296 / 1 % 1048576) * 4096 := by have h := pcW_eq (n := n) 0 20 12 (by omega) (by omega); simpa using h
theorem np_0_20_12 {w : Int} (hw : 0 ≤ w ∧ w < 4294967296) : IntKind.i64.wrap (bitsI .and .u32 (w.fdiv (2 ^ shN .u32 12)) 1048575 * 2 ^ shN .i64 0) = (w / 4096 % 1048576) * 1 := by have h := npc (w := w) 0 20 12 hw (by omega) (by omega); simpa using h
theorem pc_1_10_21 (n : Int) : pcW n (1, 1023, 21) = (n % 4294967296 / 2 % 1024) * 2097152 := by have h := pcW_eq (n := n) 1 10 21 (by omega) (by omega); simpa using h
theorem np_1_10_21 {w : Int} (hw : 0 ≤ w ∧ w < 4294967296) : IntKind.i64.wrap (bitsI .and .u32 (w.fdiv (2 ^ shN .u32 21)) 1023 * 2 ^ shN .i64 1) = (w / 2097152 % 1024) * 2 := by have h := npc (w := w) 1 10 21 hw (by omega) (by omega); simpa using h
theorem pc_11_1_20 (n : Int) : pcW n (11, 1, 20) = (n % 4294967296 / 2048 % 2) * 1048576 := by have h := pcW_eq (n := n) 11 1 20 (by omega) (by omega); simpa using h
theorem np_11_1_20 {w : Int} (hw : 0 ≤ w ∧ w < 4294967296) : IntKind.i64.wrap (bitsI .and .u32 (w.fdiv (2 ^ shN .u32 20)) 1 * 2 ^ shN .i64 11) = (w / 1048576 % 2) * 2048 := by have h := npc (w := w) 11 1 20 hw (by omega) (by omega); simpa using h
theorem pc_12_8_12 (n : Int) : pcW n (12, 255, 12) = (n % 4294967296 / 4096 % 256) * 4096 := by have h := pcW_eq (n := n) 12 8 12 (by omega) (by omega); simpa using h
theorem np_12_8_12 {w : Int} (hw : 0 ≤ w ∧ w < 4294967296) : IntKind.i64.wrap (bitsI .and .u32 (w.fdiv (2 ^ shN .u32 12)) 255 * 2 ^ shN .i64 12) = (w / 4096 % 256) * 4096 := by have h := npc (w := w) 12 8 12 hw (by omega) (by omega); simpa using h
theorem pc_20_1_31 (n : Int) : pcW n (20, 1, 31) = (n % 4294967296 / 1048576 % 2) * 2147483648 := by have h := pcW_eq (n := n) 20 1 31 (by omega) (by omega); simpa using h
theorem np_20_1_31 {w : Int} (hw : 0 ≤ w ∧ w < 4294967296) : IntKind.i64.wrap (bitsI .and .u32 (w.fdiv (2 ^ shN .u32 31)) 1 * 2 ^ shN .i64 20) = (w / 2147483648 % 2) * 1048576 := by have h := npc (w := w) 20 1 31 hw (by omega) (by omega); simpa using h
theorem pc_0_12_20 (n : Int) : pcW n (0, 4095, 20) = (n % 4294967296 / 1 % 4096) * 1048576 := by have h := pcW_eq (n := n) 0 12 20 (by omega) (by omega); simpa using h
theorem np_0_12_20 {w : Int} (hw : 0 ≤ w ∧ w < 4294967296) : IntKind.i64.wrap (bitsI .and .u32 (w.fdiv (2 ^ shN .u32 20)) 4095 * 2 ^ shN .i64 0) = (w / 1048576 % 4096) * 1 := by have h := npc (w := w) 0 12 20 hw (by omega) (by omega); simpa using h
theorem pc_0_5_20 (n : Int) : pcW n (0, 31, 20) = (n % 4294967296 / 1 % 32) * 1048576 := by have h := pcW_eq (n := n) 0 5 20 (by omega) (by omega); simpa using h
theorem np_0_5_20 {w : Int} (hw : 0 ≤ w ∧ w < 4294967296) : IntKind.i64.wrap (bitsI .and .u32 (w.fdiv (2 ^ shN .u32 20)) 31 * 2 ^ shN .i64 0) = (w / 1048576 % 32) * 1 := by have h := npc (w := w) 0 5 20 hw (by omega) (by omega); simpa using h
theorem pc_1_4_8 (n : Int) : pcW n (1, 15, 8) = (n % 4294967296 / 2 % 16) * 256 := by have h := pcW_eq (n := n) 1 4 8 (by omega) (by omega); simpa using h
theorem np_1_4_8 {w : Int} (hw : 0 ≤ w ∧ w < 4294967296) : IntKind.i64.wrap (bitsI .and .u32 (w.fdiv (2 ^ shN .u32 8)) 15 * 2 ^ shN .i64 1) = (w / 256 % 16) * 2 := by have h := npc (w := w) 1 4 8 hw (by omega) (by omega); simpa using h
theorem pc_5_6_25 (n : Int) : pcW n (5, 63, 25) = (n % 4294967296 / 32 % 64) * 33554432 := by have h := pcW_eq (n := n) 5 6 25 (by omega) (by omega); simpa using h
theorem np_5_6_25 {w : Int} (hw : 0 ≤ w ∧ w < 4294967296) : IntKind.i64.wrap (bitsI .and .u32 (w.fdiv (2 ^ shN .u32 25)) 63 * 2 ^ shN .i64 5) = (w / 33554432 % 64) * 32 := by have h := npc (w := w) 5 6 25 hw (by omega) (by omega); simpa using h
theorem pc_11_1_7 (n : Int) : pcW n (11, 1, 7) = (n % 4294967296 / 2048 % 2) * 128 := by have h := pcW_eq (n := n) 11 1 7 (by omega) (by omega); simpa using h
theorem np_11_1_7 {w : Int} (hw : 0 ≤ w ∧ w < 4294967296) : IntKind.i64.wrap (bitsI .and .u32 (w.fdiv (2 ^ shN .u32 7)) 1 * 2 ^ shN .i64 11) = (w / 128 % 2) * 2048 := by have h := npc (w := w) 11 1 7 hw (by omega) (by omega); simpa using h
theorem pc_12_1_31 (n : Int) : pcW n (12, 1, 31) = (n % 4294967296 / 4096 % 2) * 2147483648 := by have h := pcW_eq (n := n) 12 1 31 (by omega) (by omega); simpa using h
theorem np_12_1_31 {w : Int} (hw : 0 ≤ w ∧ w < 4294967296) : IntKind.i64.wrap (bitsI .and .u32 (w.fdiv (2 ^ shN .u32 31)) 1 * 2 ^ shN .i64 12) = (w / 2147483648 % 2) * 4096 := by have h := npc (w := w) 12 1 31 hw (by omega) (by omega); simpa using h
theorem pc_0_5_7 (n : Int) : pcW n (0, 31, 7) = (n % 4294967296 / 1 % 32) * 128 := by have h := pcW_eq (n := n) 0 5 7 (by omega) (by omega); simpa using h
theorem np_0_5_7 {w : Int} (hw : 0 ≤ w ∧ w < 4294967296) : IntKind.i64.wrap (bitsI .and .u32 (w.fdiv (2 ^ shN .u32 7)) 31 * 2 ^ shN .i64 0) = (w / 128 % 32) * 1 := by have h := npc (w := w) 0 5 7 hw (by omega) (by omega); simpa using h
theorem pc_5_7_25 (n : Int) : pcW n (5, 127, 25) = (n % 4294967296 / 32 % 128) * 33554432 := by have h := pcW_eq (n := n) 5 7 25 (by omega) (by omega); simpa using h
theorem np_5_7_25 {w : Int} (hw : 0 ≤ w ∧ w < 4294967296) : IntKind.i64.wrap (bitsI .and .u32 (w.fdiv (2 ^ shN .u32 25)) 127 * 2 ^ shN .i64 5) = (w / 33554432 % 128) * 32 := by have h := npc (w := w) 5 7 25 hw (by omega) (by omega); simpa using h
theorem or_5_7 {x k : Int} (hx : 0 ≤ x ∧ x < 4294967296) (hk : 0 ≤ k ∧ k < 32) (h : x / 128 % 32 = 0) : orW x (k * 128) = x + k * 128 := by unfold orW; have h := or_add 7 5 hx (k := k) (by simpa using hk) (by omega) (by simpa using h); simpa using h
theorem or_5_15 {x k : Int} (hx : 0 ≤ x ∧ x < 4294967296) (hk : 0 ≤ k ∧ k < 32) (h : x / 32768 % 32 = 0) : orW x (k * 32768) = x + k * 32768 := by unfold orW; have h := or_add 15 5 hx (k := k) (by simpa using hk) (by omega) (by simpa using h); simpa using h
theorem or_5_20 {x k : Int} (hx : 0 ≤ x ∧ x < 4294967296) (hk : 0 ≤ k ∧ k < 32) (h : x / 1048576 % 32 = 0) : orW x (k * 1048576) = x + k * 1048576 := by unfold orW; have h := or_add 20 5 hx (k := k) (by simpa using hk) (by omega) (by simpa using h); simpa using h
theorem or_20_12 {x k : Int} (hx : 0 ≤ x ∧ x < 4294967296) (hk : 0 ≤ k ∧ k < 1048576) (h : x / 4096 % 1048576 = 0) : orW x (k * 4096) = x + k * 4096 := by unfold orW; have h := or_add 12 20 hx (k := k) (by simpa using hk) (by omega) (by simpa using h); simpa using h
theorem or_10_21 {x k : Int} (hx : 0 ≤ x ∧ x < 4294967296) (hk : 0 ≤ k ∧ k < 1024) (h : x / 2097152 % 1024 = 0) : orW x (k * 2097152) = x + k * 2097152 := by unfold orW; have h := or_add 21 10 hx (k := k) (by simpa using hk) (by omega) (by simpa using h); simpa using h
theorem or_1_20 {x k : Int} (hx : 0 ≤ x ∧ x < 4294967296) (hk : 0 ≤ k ∧ k < 2) (h : x / 1048576 % 2 = 0) : orW x (k * 1048576) = x + k * 1048576 := by unfold orW; have h := or_add 20 1 hx (k := k) (by simpa using hk) (by omega) (by simpa using h); simpa using h
theorem or_8_12 {x k : Int} (hx : 0 ≤ x ∧ x < 4294967296) (hk : 0 ≤ k ∧ k < 256) (h : x / 4096 % 256 = 0) : orW x (k * 4096) = x + k * 4096 := by unfold orW; have h := or_add 12 8 hx (k := k) (by simpa using hk) (by omega) (by simpa using h); simpa using h
theorem or_1_31 {x k : Int} (hx : 0 ≤ x ∧ x < 4294967296) (hk : 0 ≤ k ∧ k < 2) (h : x / 2147483648 % 2 = 0) : orW x (k * 2147483648) = x + k * 2147483648 := by unfold orW; have h := or_add 31 1 hx (k := k) (by simpa using hk) (by omega) (by simpa using h); simpa using h
theorem or_12_20 {x k : Int} (hx : 0 ≤ x ∧ x < 4294967296) (hk : 0 ≤ k ∧ k < 4096) (h : x / 1048576 % 4096 = 0) : orW x (k * 1048576) = x + k * 1048576 := by unfold orW; have h := or_add 20 12 hx (k := k) (by simpa using hk) (by omega) (by simpa using h); simpa using h
theorem or_4_8 {x k : Int} (hx : 0 ≤ x ∧ x < 4294967296) (hk : 0 ≤ k ∧ k < 16) (h : x / 256 % 16 = 0) : orW x (k * 256) = x + k * 256 := by unfold orW; have h := or_add 8 4 hx (k := k) (by simpa using hk) (by omega) (by simpa using h); simpa using h
theorem or_6_25 {x k : Int} (hx : 0 ≤ x ∧ x < 4294967296) (hk : 0 ≤ k ∧ k < 64) (h : x / 33554432 % 64 = 0) : orW x (k * 33554432) = x + k * 33554432 := by unfold orW; have h := or_add 25 6 hx (k := k) (by simpa using hk) (by omega) (by simpa using h); simpa using h
theorem or_1_7 {x k : Int} (hx : 0 ≤ x ∧ x < 4294967296) (hk : 0 ≤ k ∧ k < 2) (h : x / 128 % 2 = 0) : orW x (k * 128) = x + k * 128 := by unfold orW; have h := or_add 7 1 hx (k := k) (by simpa using hk) (by omega) (by simpa using h); simpa using h
theorem or_7_25 {x k : Int} (hx : 0 ≤ x ∧ x < 4294967296) (hk : 0 ≤ k ∧ k < 128) (h : x / 33554432 % 128 = 0) : orW x (k * 33554432) = x + k * 33554432 := by unfold orW; have h := or_add 25 7 hx (k := k) (by simpa using hk) (by omega) (by simpa using h); simpa using h
theorem on_1_11 {x k : Int} (hx : 0 ≤ x ∧ x < 4294967296) (hk : 0 ≤ k ∧ k < 2) (h : x / 2048 % 2 = 0) : bitsI .or .i64 x (k * 2048) = x + k * 2048 := by have h := or_add64 11 1 hx (k := k) (by simpa using hk) (by omega) (by simpa using h); simpa using h
theorem on_1_12 {x k : Int} (hx : 0 ≤ x ∧ x < 4294967296) (hk : 0 ≤ k ∧ k < 2) (h : x / 4096 % 2 = 0) : bitsI .or .i64 x (k * 4096) = x + k * 4096 := by have h := or_add64 12 1 hx (k := k) (by simpa using hk) (by omega) (by simpa using h); simpa using h
theorem on_1_20 {x k : Int} (hx : 0 ≤ x ∧ x < 4294967296) (hk : 0 ≤ k ∧ k < 2) (h : x / 1048576 % 2 = 0) : bitsI .or .i64 x (k * 1048576) = x + k * 1048576 := by have h := or_add64 20 1 hx (k := k) (by simpa using hk) (by omega) (by simpa using h); simpa using h
theorem on_4_1 {x k : Int} (hx : 0 ≤ x ∧ x < 4294967296) (hk : 0 ≤ k ∧ k < 16) (h : x / 2 % 16 = 0) : bitsI .or .i64 x (k * 2) = x + k * 2 := by have h := or_add64 1 4 hx (k := k) (by simpa using hk) (by omega) (by simpa using h); simpa using h
theorem on_5_0 {x k : Int} (hx : 0 ≤ x ∧ x < 4294967296) (hk : 0 ≤ k ∧ k < 32) (h : x / 1 % 32 = 0) : bitsI .or .i64 x (k * 1) = x + k * 1 := by have h := or_add64 0 5 hx (k := k) (by simpa using hk) (by omega) (by simpa using h); simpa using h
theorem on_6_5 {x k : Int} (hx : 0 ≤ x ∧ x < 4294967296) (hk : 0 ≤ k ∧ k < 64) (h : x / 32 % 64 = 0) : bitsI .or .i64 x (k * 32) = x + k * 32 := by have h := or_add64 5 6 hx (k := k) (by simpa using hk) (by omega) (by simpa using h); simpa using h
theorem on_7_5 {x k : Int} (hx : 0 ≤ x ∧ x < 4294967296) (hk : 0 ≤ k ∧ k < 128) (h : x / 32 % 128 = 0) : bitsI .or .i64 x (k * 32) = x + k * 32 := by have h := or_add64 5 7 hx (k := k) (by simpa using hk) (by omega) (by simpa using h); simpa using h
theorem on_8_12 {x k : Int} (hx : 0 ≤ x ∧ x < 4294967296) (hk : 0 ≤ k ∧ k < 256) (h : x / 4096 % 256 = 0) : bitsI .or .i64 x (k * 4096) = x + k * 4096 := by have h := or_add64 12 8 hx (k := k) (by simpa using hk) (by omega) (by simpa using h); simpa using h
theorem on_10_1 {x k : Int} (hx : 0 ≤ x ∧ x < 4294967296) (hk : 0 ≤ k ∧ k < 1024) (h : x / 2 % 1024 = 0) : bitsI .or .i64 x (k * 2) = x + k * 2 := by have h := or_add64 1 10 hx (k := k) (by simpa using hk) (by omega) (by simpa using h); simpa using h
theorem on_12_0 {x k : Int} (hx : 0 ≤ x ∧ x < 4294967296) (hk : 0 ≤ k ∧ k < 4096) (h : x / 1 % 4096 = 0) : bitsI .or .i64 x (k * 1) = x + k * 1 := by have h := or_add64 0 12 hx (k := k) (by simpa using hk) (by omega) (by simpa using h); simpa using h
theorem on_20_0 {x k : Int} (hx : 0 ≤ x ∧ x < 4294967296) (hk : 0 ≤ k ∧ k < 1048576) (h : x / 1 % 1048576 = 0) : bitsI .or .i64 x (k * 1) = x + k * 1 := by have h := or_add64 0 20 hx (k := k) (by simpa using hk) (by omega) (by simpa using h); simpa using h
theorem enc_0 {B a n : Int} (hB : 0 ≤ B ∧ B < 128) (ha : 0 ≤ a ∧ a < 32) : encW 0 B a 0 0 n = B + a * 128 + (n % 4294967296 / 1 % 1048576) * 4096 := by
  simp only [encW, pcs, List.foldl_cons, List.foldl_nil, reg_7 ha, reg_15 (k := 0) ⟨by omega, by omega⟩, reg_20 (k := 0) ⟨by omega, by omega⟩, pc_0_20_12]
  have g0 : 0 ≤ n % 4294967296 / 1 % 1048576 ∧ n % 4294967296 / 1 % 1048576 < 1048576 := by omega
  generalize n % 4294967296 / 1 % 1048576 = x0 at g0 ⊢
  simp only [Int.zero_mul]
  rw [or_5_7 (by omega) ha (by omega)]
  rw [show orW (B + a * 128) 0 = B + a * 128 from or_zero (by omega)]
  rw [show orW (B + a * 128) 0 = B + a * 128 from or_zero (by omega)]
  rw [or_20_12 (by omega) g0 (by omega)]
theorem num_0 {w : Int} (hw : 0 ≤ w ∧ w < 4294967296) : numV 0 w = (w / 4096 % 1048576) * 1 := by
  simp only [numV, pcs, List.foldl_cons, List.foldl_nil, np_0_20_12 hw]
  have g0 : 0 ≤ w / 4096 % 1048576 ∧ w / 4096 % 1048576 < 1048576 := by omega
  generalize w / 4096 % 1048576 = x0 at g0 ⊢
  rw [on_20_0 (by omega) g0 (by omega)]
  omega
theorem enc_1 {B a n : Int} (hB : 0 ≤ B ∧ B < 128) (ha : 0 ≤ a ∧ a < 32) : encW 1 B a 0 0 n = B + a * 128 + (n % 4294967296 / 2 % 1024) * 2097152 + (n % 4294967296 / 2048 % 2) * 1048576 + (n % 4294967296 / 4096 % 256) * 4096 + (n % 4294967296 / 1048576 % 2) * 2147483648 := by
  simp only [encW, pcs, List.foldl_cons, List.foldl_nil, reg_7 ha, reg_15 (k := 0) ⟨by omega, by omega⟩, reg_20 (k := 0) ⟨by omega, by omega⟩, pc_1_10_21, pc_11_1_20, pc_12_8_12, pc_20_1_31]
  have g0 : 0 ≤ n % 4294967296 / 2 % 1024 ∧ n % 4294967296 / 2 % 1024 < 1024 := by omega
  have g1 : 0 ≤ n % 4294967296 / 2048 % 2 ∧ n % 4294967296 / 2048 % 2 < 2 := by omega
  have g2 : 0 ≤ n % 4294967296 / 4096 % 256 ∧ n % 4294967296 / 4096 % 256 < 256 := by omega
  have g3 : 0 ≤ n % 4294967296 / 1048576 % 2 ∧ n % 4294967296 / 1048576 % 2 < 2 := by omega
  generalize n % 4294967296 / 2 % 1024 = x0 at g0 ⊢
  generalize n % 4294967296 / 2048 % 2 = x1 at g1 ⊢
  generalize n % 4294967296 / 4096 % 256 = x2 at g2 ⊢
  generalize n % 4294967296 / 1048576 % 2 = x3 at g3 ⊢
  simp only [Int.zero_mul]
  rw [or_5_7 (by omega) ha (by omega)]
  rw [show orW (B + a * 128) 0 = B + a * 128 from or_zero (by omega)]
  rw [show orW (B + a * 128) 0 = B + a * 128 from or_zero (by omega)]
  rw [or_10_21 (by omega) g0 (by omega)]
  rw [or_1_20 (by omega) g1 (by omega)]
  rw [or_8_12 (by omega) g2 (by omega)]
  rw [or_1_31 (by omega) g3 (by omega)]
theorem num_1 {w : Int} (hw : 0 ≤ w ∧ w < 4294967296) : numV 1 w = (w / 2097152 % 1024) * 2 + (w / 1048576 % 2) * 2048 + (w / 4096 % 256) * 4096 + (w / 2147483648 % 2) * 1048576 := by
  simp only [numV, pcs, List.foldl_cons, List.foldl_nil, np_1_10_21 hw, np_11_1_20 hw, np_12_8_12 hw, np_20_1_31 hw]
  have g0 : 0 ≤ w / 2097152 % 1024 ∧ w / 2097152 % 1024 < 1024 := by omega
  have g1 : 0 ≤ w / 1048576 % 2 ∧ w / 1048576 % 2 < 2 := by omega
  have g2 : 0 ≤ w / 4096 % 256 ∧ w / 4096 % 256 < 256 := by omega
  have g3 : 0 ≤ w / 2147483648 % 2 ∧ w / 2147483648 % 2 < 2 := by omega
  generalize w / 2097152 % 1024 = x0 at g0 ⊢
  generalize w / 1048576 % 2 = x1 at g1 ⊢
  generalize w / 4096 % 256 = x2 at g2 ⊢
  generalize w / 2147483648 % 2 = x3 at g3 ⊢
  rw [on_10_1 (by omega) g0 (by omega)]
  rw [on_1_11 (by omega) g1 (by omega)]
  rw [on_8_12 (by omega) g2 (by omega)]
  rw [on_1_20 (by omega) g3 (by omega)]
  omega
theorem enc_2 {B a b n : Int} (hB : 0 ≤ B ∧ B % 128 + B / 4096 % 8 * 4096 = B) (ha : 0 ≤ a ∧ a < 32) (hb : 0 ≤ b ∧ b < 32) : encW 2 B a b 0 n = B + a * 128 + b * 32768 + (n % 4294967296 / 1 % 4096) * 1048576 := by
  simp only [encW, pcs, List.foldl_cons, List.foldl_nil, reg_7 ha, reg_15 hb, reg_20 (k := 0) ⟨by omega, by omega⟩, pc_0_12_20]
  have g0 : 0 ≤ n % 4294967296 / 1 % 4096 ∧ n % 4294967296 / 1 % 4096 < 4096 := by omega
  generalize n % 4294967296 / 1 % 4096 = x0 at g0 ⊢
  simp only [Int.zero_mul]
  rw [or_5_7 (by omega) ha (by omega)]
  rw [or_5_15 (by omega) hb (by omega)]
  rw [show orW (B + a * 128 + b * 32768) 0 = B + a * 128 + b * 32768 from or_zero (by omega)]
  rw [or_12_20 (by omega) g0 (by omega)]
theorem num_2 {w : Int} (hw : 0 ≤ w ∧ w < 4294967296) : numV 2 w = (w / 1048576 % 4096) * 1 := by
  simp only [numV, pcs, List.foldl_cons, List.foldl_nil, np_0_12_20 hw]
  have g0 : 0 ≤ w / 1048576 % 4096 ∧ w / 1048576 % 4096 < 4096 := by omega
  generalize w / 1048576 % 4096 = x0 at g0 ⊢
  rw [on_12_0 (by omega) g0 (by omega)]
  omega
theorem enc_3 {B a b n : Int} (hB : 0 ≤ B ∧ B < 4294967296 ∧ B % 128 + B / 4096 % 8 * 4096 + B / 33554432 * 33554432 = B) (ha : 0 ≤ a ∧ a < 32) (hb : 0 ≤ b ∧ b < 32) (hn : 0 ≤ n ∧ n < 32) : encW 3 B a b 0 n = B + a * 128 + b * 32768 + (n % 4294967296 / 1 % 32) * 1048576 := by
  simp only [encW, pcs, List.foldl_cons, List.foldl_nil, reg_7 ha, reg_15 hb, reg_20 (k := 0) ⟨by omega, by omega⟩, pc_0_5_20]
  have g0 : 0 ≤ n % 4294967296 / 1 % 32 ∧ n % 4294967296 / 1 % 32 < 32 := by omega
  generalize n % 4294967296 / 1 % 32 = x0 at g0 ⊢
  simp only [Int.zero_mul]
  rw [or_5_7 (by omega) ha (by omega)]
  rw [or_5_15 (by omega) hb (by omega)]
  rw [show orW (B + a * 128 + b * 32768) 0 = B + a * 128 + b * 32768 from or_zero (by omega)]
  rw [or_5_20 (by omega) g0 (by omega)]
theorem num_3 {w : Int} (hw : 0 ≤ w ∧ w < 4294967296) : numV 3 w = (w / 1048576 % 32) * 1 := by
  simp only [numV, pcs, List.foldl_cons, List.foldl_nil, np_0_5_20 hw]
  have g0 : 0 ≤ w / 1048576 % 32 ∧ w / 1048576 % 32 < 32 := by omega
  generalize w / 1048576 % 32 = x0 at g0 ⊢
  rw [on_5_0 (by omega) g0 (by omega)]
  omega
theorem enc_4 {B b c n : Int} (hB : 0 ≤ B ∧ B % 128 + B / 4096 % 8 * 4096 = B) (hb : 0 ≤ b ∧ b < 32) (hc : 0 ≤ c ∧ c < 32) : encW 4 B 0 b c n = B + b * 32768 + c * 1048576 + (n % 4294967296 / 2 % 16) * 256 + (n % 4294967296 / 32 % 64) * 33554432 + (n % 4294967296 / 2048 % 2) * 128 + (n % 4294967296 / 4096 % 2) * 2147483648 := by
  simp only [encW, pcs, List.foldl_cons, List.foldl_nil, reg_7 (k := 0) ⟨by omega, by omega⟩, reg_15 hb, reg_20 hc, pc_1_4_8, pc_5_6_25, pc_11_1_7, pc_12_1_31]
  have g0 : 0 ≤ n % 4294967296 / 2 % 16 ∧ n % 4294967296 / 2 % 16 < 16 := by omega
  have g1 : 0 ≤ n % 4294967296 / 32 % 64 ∧ n % 4294967296 / 32 % 64 < 64 := by omega
  have g2 : 0 ≤ n % 4294967296 / 2048 % 2 ∧ n % 4294967296 / 2048 % 2 < 2 := by omega
  have g3 : 0 ≤ n % 4294967296 / 4096 % 2 ∧ n % 4294967296 / 4096 % 2 < 2 := by omega
  generalize n % 4294967296 / 2 % 16 = x0 at g0 ⊢
  generalize n % 4294967296 / 32 % 64 = x1 at g1 ⊢
  generalize n % 4294967296 / 2048 % 2 = x2 at g2 ⊢
  generalize n % 4294967296 / 4096 % 2 = x3 at g3 ⊢
  simp only [Int.zero_mul]
  rw [show orW (B) 0 = B from or_zero (by omega)]
  rw [or_5_15 (by omega) hb (by omega)]
  rw [or_5_20 (by omega) hc (by omega)]
  rw [or_4_8 (by omega) g0 (by omega)]
  rw [or_6_25 (by omega) g1 (by omega)]
  rw [or_1_7 (by omega) g2 (by omega)]
  rw [or_1_31 (by omega) g3 (by omega)]
theorem num_4 {w : Int} (hw : 0 ≤ w ∧ w < 4294967296) : numV 4 w = (w / 256 % 16) * 2 + (w / 33554432 % 64) * 32 + (w / 128 % 2) * 2048 + (w / 2147483648 % 2) * 4096 := by
  simp only [numV, pcs, List.foldl_cons, List.foldl_nil, np_1_4_8 hw, np_5_6_25 hw, np_11_1_7 hw, np_12_1_31 hw]
  have g0 : 0 ≤ w / 256 % 16 ∧ w / 256 % 16 < 16 := by omega
  have g1 : 0 ≤ w / 33554432 % 64 ∧ w / 33554432 % 64 < 64 := by omega
  have g2 : 0 ≤ w / 128 % 2 ∧ w / 128 % 2 < 2 := by omega
  have g3 : 0 ≤ w / 2147483648 % 2 ∧ w / 2147483648 % 2 < 2 := by omega
  generalize w / 256 % 16 = x0 at g0 ⊢
  generalize w / 33554432 % 64 = x1 at g1 ⊢
  generalize w / 128 % 2 = x2 at g2 ⊢
  generalize w / 2147483648 % 2 = x3 at g3 ⊢
  rw [on_4_1 (by omega) g0 (by omega)]
  rw [on_6_5 (by omega) g1 (by omega)]
  rw [on_1_11 (by omega) g2 (by omega)]
  rw [on_1_12 (by omega) g3 (by omega)]
  omega
theorem enc_5 {B b c n : Int} (hB : 0 ≤ B ∧ B % 128 + B / 4096 % 8 * 4096 = B) (hb : 0 ≤ b ∧ b < 32) (hc : 0 ≤ c ∧ c < 32) : encW 5 B 0 b c n = B + b * 32768 + c * 1048576 + (n % 4294967296 / 1 % 32) * 128 + (n % 4294967296 / 32 % 128) * 33554432 := by
  simp only [encW, pcs, List.foldl_cons, List.foldl_nil, reg_7 (k := 0) ⟨by omega, by omega⟩, reg_15 hb, reg_20 hc, pc_0_5_7, pc_5_7_25]
  have g0 : 0 ≤ n % 4294967296 / 1 % 32 ∧ n % 4294967296 / 1 % 32 < 32 := by omega
  have g1 : 0 ≤ n % 4294967296 / 32 % 128 ∧ n % 4294967296 / 32 % 128 < 128 := by omega
  generalize n % 4294967296 / 1 % 32 = x0 at g0 ⊢
  generalize n % 4294967296 / 32 % 128 = x1 at g1 ⊢
  simp only [Int.zero_mul]
  rw [show orW (B) 0 = B from or_zero (by omega)]
  rw [or_5_15 (by omega) hb (by omega)]
  rw [or_5_20 (by omega) hc (by omega)]
  rw [or_5_7 (by omega) g0 (by omega)]
  rw [or_7_25 (by omega) g1 (by omega)]
theorem num_5 {w : Int} (hw : 0 ≤ w ∧ w < 4294967296) : numV 5 w = (w / 128 % 32) * 1 + (w / 33554432 % 128) * 32 := by
  simp only [numV, pcs, List.foldl_cons, List.foldl_nil, np_0_5_7 hw, np_5_7_25 hw]
  have g0 : 0 ≤ w / 128 % 32 ∧ w / 128 % 32 < 32 := by omega
  have g1 : 0 ≤ w / 33554432 % 128 ∧ w / 33554432 % 128 < 128 := by omega
  generalize w / 128 % 32 = x0 at g0 ⊢
  generalize w / 33554432 % 128 = x1 at g1 ⊢
  rw [on_5_0 (by omega) g0 (by omega)]
  rw [on_7_5 (by omega) g1 (by omega)]
  omega
theorem enc_6 {B a b c n : Int} (hB : 0 ≤ B ∧ B < 4294967296 ∧ B % 128 + B / 4096 % 8 * 4096 + B / 33554432 * 33554432 = B) (ha : 0 ≤ a ∧ a < 32) (hb : 0 ≤ b ∧ b < 32) (hc : 0 ≤ c ∧ c < 32) : encW 6 B a b c n = B + a * 128 + b * 32768 + c * 1048576 := by
  simp only [encW, pcs, List.foldl_cons, List.foldl_nil, reg_7 ha, reg_15 hb, reg_20 hc]
  rw [or_5_7 (by omega) ha (by omega)]
  rw [or_5_15 (by omega) hb (by omega)]
  rw [or_5_20 (by omega) hc (by omega)]
theorem num_6 {w : Int} (hw : 0 ≤ w ∧ w < 4294967296) : numV 6 w = 0 := by
  simp only [numV, pcs, List.foldl_cons, List.foldl_nil]
theorem enc_7 {B  n : Int} (hB : B = 115 ∨ B = 1048691) : encW 7 B 0 0 0 n = B := by
  simp only [encW, pcs, List.foldl_cons, List.foldl_nil, reg_7 (k := 0) ⟨by omega, by omega⟩, reg_15 (k := 0) ⟨by omega, by omega⟩, reg_20 (k := 0) ⟨by omega, by omega⟩]
  rcases hB with rfl | rfl <;> rfl
theorem num_7 {w : Int} (hw : 0 ≤ w ∧ w < 4294967296) : numV 7 w = 0 := by
  simp only [numV, pcs, List.foldl_cons, List.foldl_nil]
end Go.Proofs.Ytloihfdiabbcpaa.Sx
