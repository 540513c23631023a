/- The walk of NumShifts, kind by kind. -/
import Derived.Test.YtfkhlmmapopacaaProg
import Derived.Test.YtfkhlmmapopacaaTreeShifts
namespace Go.Proofs.Ytfkhlmmapopacaa.Sx
open Go Go.RowKit
set_option linter.unusedVariables false
set_option linter.unusedSimpArgs false
set_option maxRecDepth 100000

theorem wrap_mod (z : Int) (j : Nat) (h : j ≤ 62) : (IntKind.i64.wrap z) % 2 ^ j = z % 2 ^ j := by
  have hd : (2 : Int) ^ j ∣ 18446744073709551616 := by
    have : (18446744073709551616 : Int) = 2 ^ j * 2 ^ (64 - j) := by
      rw [← Int.pow_add]; rw [show j + (64 - j) = 64 by omega]; rfl
    exact ⟨_, this⟩
  obtain ⟨d, hd⟩ := hd
  obtain ⟨q, hq⟩ : ∃ q, IntKind.i64.wrap z = z + q * 18446744073709551616 := ⟨(IntKind.i64.wrap z - z) / 18446744073709551616, by rw [wrap_i64]; omega⟩
  rw [hq, hd, ← Int.mul_assoc, Int.mul_comm q, Int.mul_assoc, Int.add_mul_emod_self_left]
theorem shift_back (x y q : Int) (n m : Nat) (hm : m ≤ n) (hq : y = x * 2 ^ m + q * 2 ^ n) : y.fdiv (2 ^ m) = x + q * 2 ^ (n - m) := by
  have h2 : (2 : Int) ^ n = 2 ^ (n - m) * 2 ^ m := by rw [← Int.pow_add]; rw [show n - m + m = n by omega]
  have hp : (0 : Int) < 2 ^ m := by have := Nat.two_pow_pos m; have e : ((2 : Int) ^ m) = ((2 ^ m : Nat) : Int) := by simp
                                    omega
  rw [hq, h2, ← Int.mul_assoc, ← Int.add_mul, Int.fdiv_eq_ediv_of_nonneg _ (by omega), Int.mul_ediv_cancel _ (by omega)]
theorem shN_i64 (b : Int) (h : 0 ≤ b) (h' : b ≤ 64) : shN .i64 b = b.toNat := by
  unfold shN; simp [IntKind.bits]; omega
theorem mask_eq (j : Nat) (h : j ≤ 32) : IntKind.i64.wrap (IntKind.i64.wrap (1 * 2 ^ j) - 1) = 2 ^ j - 1 := by
  have e : ((2 : Int) ^ j) = ((2 ^ j : Nat) : Int) := by simp
  have hle : (2 : Nat) ^ j ≤ 2 ^ 32 := Nat.pow_le_pow_right (by omega) h
  have hp := Nat.two_pow_pos j
  rw [wrap_i64, wrap_i64, e]; omega
theorem shift_low (x y b : Int) (n : Nat) (hn : n ≤ 32) (h0 : 0 ≤ b) (h1 : b < n) (hq : ∃ q, y = x * 2 ^ shN .i64 b + q * 2 ^ n) :
    bitsI .and .i64 (IntKind.i64.wrap (y.fdiv (2 ^ shN .i64 b) - x)) (IntKind.i64.wrap (IntKind.i64.wrap (1 * 2 ^ shN .i64 ((n : Int) - b)) - 1)) = 0 := by
  obtain ⟨q, hq⟩ := hq
  rw [shN_i64 b h0 (by omega)] at hq ⊢
  rw [shN_i64 _ (by omega) (by omega), mask_eq _ (by omega), shift_back x y q n b.toNat (by omega) hq, bits_and_mask _ _ (by omega), wrap_mod _ _ (by omega)]
  have : ((n : Int) - b).toNat = n - b.toNat := by omega
  rw [this, show x + q * 2 ^ (n - b.toNat) - x = q * 2 ^ (n - b.toNat) by omega, Int.mul_emod_left]
theorem q_i8 (P : Int) : ∃ q, IntKind.i8.wrap (IntKind.i64.wrap P) = P + q * 2 ^ 8 := ⟨(IntKind.i8.wrap (IntKind.i64.wrap P) - P) / 256, by rw [wrap_i64, wrap_i8]; omega⟩
theorem q_u8 (P : Int) : ∃ q, IntKind.u8.wrap (IntKind.i64.wrap P) = P + q * 2 ^ 8 := ⟨(IntKind.u8.wrap (IntKind.i64.wrap P) - P) / 256, by rw [wrap_i64, wrap_u8]; omega⟩
theorem q_i16 (P : Int) : ∃ q, IntKind.i16.wrap (IntKind.i64.wrap P) = P + q * 2 ^ 16 := ⟨(IntKind.i16.wrap (IntKind.i64.wrap P) - P) / 65536, by rw [wrap_i64, wrap_i16]; omega⟩
theorem q_u16 (P : Int) : ∃ q, IntKind.u16.wrap (IntKind.i64.wrap P) = P + q * 2 ^ 16 := ⟨(IntKind.u16.wrap (IntKind.i64.wrap P) - P) / 65536, by rw [wrap_i64, wrap_u16]; omega⟩
theorem q_i32 (P : Int) : ∃ q, IntKind.i32.wrap (IntKind.i64.wrap P) = P + q * 2 ^ 32 := ⟨(IntKind.i32.wrap (IntKind.i64.wrap P) - P) / 4294967296, by rw [wrap_i64, wrap_i32]; omega⟩
theorem q_u32 (P : Int) : ∃ q, IntKind.u32.wrap (IntKind.i64.wrap P) = P + q * 2 ^ 32 := ⟨(IntKind.u32.wrap (IntKind.i64.wrap P) - P) / 4294967296, by rw [wrap_i64, wrap_u32]; omega⟩
theorem tmod8 (x : Int) : (x.tmod 8 + 8).tmod 8 = x % 8 := tmod_mod x 8 (by omega)
theorem tmod16 (x : Int) : (x.tmod 16 + 16).tmod 16 = x % 16 := tmod_mod x 16 (by omega)
theorem tmod32 (x : Int) : (x.tmod 32 + 32).tmod 32 = x % 32 := tmod_mod x 32 (by omega)
theorem sh0 : (2 : Int) ^ shN .i64 0 = 1 := rfl
theorem kind_in (x : Int) : let e := 3 + (bitsI .and .i64 x 7).tmod 6; e = 3 ∨ e = 4 ∨ e = 5 ∨ e = 6 ∨ e = 7 ∨ e = 8 := by
  intro e
  have h : e = 3 + (bitsI .and .i64 x 7).tmod 6 := rfl
  rw [and_7, Int.tmod_eq_emod_of_nonneg (by omega)] at h
  omega
theorem shifts3_good (η : Env) : shifts3T.good η := by
  simp only [shifts3T, T.good, B.prop, E.den, propI, tmod8, sh0]
  have hb : 0 ≤ η.i 2 % 8 ∧ η.i 2 % 8 < 8 := by omega
  have hl := shift_low (IntKind.i8.wrap (η.i 1)) (IntKind.i8.wrap (IntKind.i64.wrap (IntKind.i8.wrap (η.i 1) * 2 ^ shN .i64 (η.i 2 % 8)))) (η.i 2 % 8) 8 (by omega) hb.1 hb.2 (q_i8 _)
  generalize η.i 2 % 8 = b at *
  have hu : IntKind.u64.wrap b = b := by rw [wrap_u64]; omega
  have hx : IntKind.i64.min ≤ IntKind.i8.wrap (η.i 1) ∧ IntKind.i8.wrap (η.i 1) ≤ IntKind.i64.max := by
    rw [wrap_i8]; simp [IntKind.min, IntKind.max, IntKind.signed, IntKind.bits]; omega
  have h1 : IntKind.i8.wrap (IntKind.i64.wrap (IntKind.i8.wrap (η.i 1) * 1)) = IntKind.i8.wrap (η.i 1) := by
    rw [Int.mul_one, wrap_id .i64 _ hx.1 hx.2, wrap_wrap]
  have hl2 := hl
  rw [show (((8 : Nat)) : Int) = 8 from rfl] at hl2
  simp only [hu, h1, hl2]
  clear hl hl2 h1 hx hu
  repeat' first | apply And.intro | intro _
  all_goals first | trivial | omega | (simp at *; done) | (simp at *; omega)
theorem shifts4_good (η : Env) : shifts4T.good η := by
  simp only [shifts4T, T.good, B.prop, E.den, propI, tmod16, sh0]
  have hb : 0 ≤ η.i 2 % 16 ∧ η.i 2 % 16 < 16 := by omega
  have hl := shift_low (IntKind.i16.wrap (η.i 1)) (IntKind.i16.wrap (IntKind.i64.wrap (IntKind.i16.wrap (η.i 1) * 2 ^ shN .i64 (η.i 2 % 16)))) (η.i 2 % 16) 16 (by omega) hb.1 hb.2 (q_i16 _)
  generalize η.i 2 % 16 = b at *
  have hu : IntKind.u64.wrap b = b := by rw [wrap_u64]; omega
  have hx : IntKind.i64.min ≤ IntKind.i16.wrap (η.i 1) ∧ IntKind.i16.wrap (η.i 1) ≤ IntKind.i64.max := by
    rw [wrap_i16]; simp [IntKind.min, IntKind.max, IntKind.signed, IntKind.bits]; omega
  have h1 : IntKind.i16.wrap (IntKind.i64.wrap (IntKind.i16.wrap (η.i 1) * 1)) = IntKind.i16.wrap (η.i 1) := by
    rw [Int.mul_one, wrap_id .i64 _ hx.1 hx.2, wrap_wrap]
  have hl2 := hl
  rw [show (((16 : Nat)) : Int) = 16 from rfl] at hl2
  simp only [hu, h1, hl2]
  clear hl hl2 h1 hx hu
  repeat' first | apply And.intro | intro _
  all_goals first | trivial | omega | (simp at *; done) | (simp at *; omega)
theorem shifts5_good (η : Env) : shifts5T.good η := by
  simp only [shifts5T, T.good, B.prop, E.den, propI, tmod32, sh0]
  have hb : 0 ≤ η.i 2 % 32 ∧ η.i 2 % 32 < 32 := by omega
  have hl := shift_low (IntKind.i32.wrap (η.i 1)) (IntKind.i32.wrap (IntKind.i64.wrap (IntKind.i32.wrap (η.i 1) * 2 ^ shN .i64 (η.i 2 % 32)))) (η.i 2 % 32) 32 (by omega) hb.1 hb.2 (q_i32 _)
  generalize η.i 2 % 32 = b at *
  have hu : IntKind.u64.wrap b = b := by rw [wrap_u64]; omega
  have hx : IntKind.i64.min ≤ IntKind.i32.wrap (η.i 1) ∧ IntKind.i32.wrap (η.i 1) ≤ IntKind.i64.max := by
    rw [wrap_i32]; simp [IntKind.min, IntKind.max, IntKind.signed, IntKind.bits]; omega
  have h1 : IntKind.i32.wrap (IntKind.i64.wrap (IntKind.i32.wrap (η.i 1) * 1)) = IntKind.i32.wrap (η.i 1) := by
    rw [Int.mul_one, wrap_id .i64 _ hx.1 hx.2, wrap_wrap]
  have hl2 := hl
  rw [show (((32 : Nat)) : Int) = 32 from rfl] at hl2
  simp only [hu, h1, hl2]
  clear hl hl2 h1 hx hu
  repeat' first | apply And.intro | intro _
  all_goals first | trivial | omega | (simp at *; done) | (simp at *; omega)
theorem shifts6_good (η : Env) : shifts6T.good η := by
  simp only [shifts6T, T.good, B.prop, E.den, propI, tmod8, sh0]
  have hb : 0 ≤ η.i 2 % 8 ∧ η.i 2 % 8 < 8 := by omega
  have hl := shift_low (IntKind.u8.wrap (η.i 1)) (IntKind.u8.wrap (IntKind.i64.wrap (IntKind.u8.wrap (η.i 1) * 2 ^ shN .i64 (η.i 2 % 8)))) (η.i 2 % 8) 8 (by omega) hb.1 hb.2 (q_u8 _)
  generalize η.i 2 % 8 = b at *
  have hu : IntKind.u64.wrap b = b := by rw [wrap_u64]; omega
  have hx : IntKind.i64.min ≤ IntKind.u8.wrap (η.i 1) ∧ IntKind.u8.wrap (η.i 1) ≤ IntKind.i64.max := by
    rw [wrap_u8]; simp [IntKind.min, IntKind.max, IntKind.signed, IntKind.bits]; omega
  have h1 : IntKind.u8.wrap (IntKind.i64.wrap (IntKind.u8.wrap (η.i 1) * 1)) = IntKind.u8.wrap (η.i 1) := by
    rw [Int.mul_one, wrap_id .i64 _ hx.1 hx.2, wrap_wrap]
  have hl2 := hl
  rw [show (((8 : Nat)) : Int) = 8 from rfl] at hl2
  simp only [hu, h1, hl2]
  clear hl hl2 h1 hx hu
  repeat' first | apply And.intro | intro _
  all_goals first | trivial | omega | (simp at *; done) | (simp at *; omega)
theorem shifts7_good (η : Env) : shifts7T.good η := by
  simp only [shifts7T, T.good, B.prop, E.den, propI, tmod16, sh0]
  have hb : 0 ≤ η.i 2 % 16 ∧ η.i 2 % 16 < 16 := by omega
  have hl := shift_low (IntKind.u16.wrap (η.i 1)) (IntKind.u16.wrap (IntKind.i64.wrap (IntKind.u16.wrap (η.i 1) * 2 ^ shN .i64 (η.i 2 % 16)))) (η.i 2 % 16) 16 (by omega) hb.1 hb.2 (q_u16 _)
  generalize η.i 2 % 16 = b at *
  have hu : IntKind.u64.wrap b = b := by rw [wrap_u64]; omega
  have hx : IntKind.i64.min ≤ IntKind.u16.wrap (η.i 1) ∧ IntKind.u16.wrap (η.i 1) ≤ IntKind.i64.max := by
    rw [wrap_u16]; simp [IntKind.min, IntKind.max, IntKind.signed, IntKind.bits]; omega
  have h1 : IntKind.u16.wrap (IntKind.i64.wrap (IntKind.u16.wrap (η.i 1) * 1)) = IntKind.u16.wrap (η.i 1) := by
    rw [Int.mul_one, wrap_id .i64 _ hx.1 hx.2, wrap_wrap]
  have hl2 := hl
  rw [show (((16 : Nat)) : Int) = 16 from rfl] at hl2
  simp only [hu, h1, hl2]
  clear hl hl2 h1 hx hu
  repeat' first | apply And.intro | intro _
  all_goals first | trivial | omega | (simp at *; done) | (simp at *; omega)
theorem shifts8_good (η : Env) : shifts8T.good η := by
  simp only [shifts8T, T.good, B.prop, E.den, propI, tmod32, sh0]
  have hb : 0 ≤ η.i 2 % 32 ∧ η.i 2 % 32 < 32 := by omega
  have hl := shift_low (IntKind.u32.wrap (η.i 1)) (IntKind.u32.wrap (IntKind.i64.wrap (IntKind.u32.wrap (η.i 1) * 2 ^ shN .i64 (η.i 2 % 32)))) (η.i 2 % 32) 32 (by omega) hb.1 hb.2 (q_u32 _)
  generalize η.i 2 % 32 = b at *
  have hu : IntKind.u64.wrap b = b := by rw [wrap_u64]; omega
  have hx : IntKind.i64.min ≤ IntKind.u32.wrap (η.i 1) ∧ IntKind.u32.wrap (η.i 1) ≤ IntKind.i64.max := by
    rw [wrap_u32]; simp [IntKind.min, IntKind.max, IntKind.signed, IntKind.bits]; omega
  have h1 : IntKind.u32.wrap (IntKind.i64.wrap (IntKind.u32.wrap (η.i 1) * 1)) = IntKind.u32.wrap (η.i 1) := by
    rw [Int.mul_one, wrap_id .i64 _ hx.1 hx.2, wrap_wrap]
  have hl2 := hl
  rw [show (((32 : Nat)) : Int) = 32 from rfl] at hl2
  simp only [hu, h1, hl2]
  clear hl hl2 h1 hx hu
  repeat' first | apply And.intro | intro _
  all_goals first | trivial | omega | (simp at *; done) | (simp at *; omega)
theorem shifts_walk (a0 a1 a2 : Int) (w0 : (Lit.int .i64 a0).wf = true) (w1 : (Lit.int .i64 a1).wf = true) (w2 : (Lit.int .i64 a2).wf = true) (W : World) :
    Calls Try.prog 6 #[.int .i64 a0, .int .i64 a1, .int .i64 a2] W fun e W' => e = .returned (.bool true) ∧ Below W.heap.size W W' := by
  rcases kind_in a0 with hc | hc | hc | hc | hc | hc
  · refine law_ok (η := { i := fun n => if n = 0 then a0 else if n = 1 then a1 else a2 }) (plain_of (by kernel_rfl)) (by kernel_rfl) (noSum_ok _ _) (args := [.int .i64 (.var 0), .int .i64 (.var 1), .int .i64 (.var 2)]) (args' := [.int .i64 a0, .int .i64 a1, .int .i64 a2])
      (.cons _ _ _ _ (.int _ _) (.cons _ _ _ _ (.int _ _) (.cons _ _ _ _ (.int _ _) .nil))) (n := 60) (factsOf_ok (e := (.add (.lit 3) (.rem (.bits .and .i64 (.var 0) (.lit 7)) (.lit 6)))) hc) ?_ W
    rw [shifts3_eq]; exact T.good_yes (shifts3_good _)
  · refine law_ok (η := { i := fun n => if n = 0 then a0 else if n = 1 then a1 else a2 }) (plain_of (by kernel_rfl)) (by kernel_rfl) (noSum_ok _ _) (args := [.int .i64 (.var 0), .int .i64 (.var 1), .int .i64 (.var 2)]) (args' := [.int .i64 a0, .int .i64 a1, .int .i64 a2])
      (.cons _ _ _ _ (.int _ _) (.cons _ _ _ _ (.int _ _) (.cons _ _ _ _ (.int _ _) .nil))) (n := 60) (factsOf_ok (e := (.add (.lit 3) (.rem (.bits .and .i64 (.var 0) (.lit 7)) (.lit 6)))) hc) ?_ W
    rw [shifts4_eq]; exact T.good_yes (shifts4_good _)
  · refine law_ok (η := { i := fun n => if n = 0 then a0 else if n = 1 then a1 else a2 }) (plain_of (by kernel_rfl)) (by kernel_rfl) (noSum_ok _ _) (args := [.int .i64 (.var 0), .int .i64 (.var 1), .int .i64 (.var 2)]) (args' := [.int .i64 a0, .int .i64 a1, .int .i64 a2])
      (.cons _ _ _ _ (.int _ _) (.cons _ _ _ _ (.int _ _) (.cons _ _ _ _ (.int _ _) .nil))) (n := 60) (factsOf_ok (e := (.add (.lit 3) (.rem (.bits .and .i64 (.var 0) (.lit 7)) (.lit 6)))) hc) ?_ W
    rw [shifts5_eq]; exact T.good_yes (shifts5_good _)
  · refine law_ok (η := { i := fun n => if n = 0 then a0 else if n = 1 then a1 else a2 }) (plain_of (by kernel_rfl)) (by kernel_rfl) (noSum_ok _ _) (args := [.int .i64 (.var 0), .int .i64 (.var 1), .int .i64 (.var 2)]) (args' := [.int .i64 a0, .int .i64 a1, .int .i64 a2])
      (.cons _ _ _ _ (.int _ _) (.cons _ _ _ _ (.int _ _) (.cons _ _ _ _ (.int _ _) .nil))) (n := 60) (factsOf_ok (e := (.add (.lit 3) (.rem (.bits .and .i64 (.var 0) (.lit 7)) (.lit 6)))) hc) ?_ W
    rw [shifts6_eq]; exact T.good_yes (shifts6_good _)
  · refine law_ok (η := { i := fun n => if n = 0 then a0 else if n = 1 then a1 else a2 }) (plain_of (by kernel_rfl)) (by kernel_rfl) (noSum_ok _ _) (args := [.int .i64 (.var 0), .int .i64 (.var 1), .int .i64 (.var 2)]) (args' := [.int .i64 a0, .int .i64 a1, .int .i64 a2])
      (.cons _ _ _ _ (.int _ _) (.cons _ _ _ _ (.int _ _) (.cons _ _ _ _ (.int _ _) .nil))) (n := 60) (factsOf_ok (e := (.add (.lit 3) (.rem (.bits .and .i64 (.var 0) (.lit 7)) (.lit 6)))) hc) ?_ W
    rw [shifts7_eq]; exact T.good_yes (shifts7_good _)
  · refine law_ok (η := { i := fun n => if n = 0 then a0 else if n = 1 then a1 else a2 }) (plain_of (by kernel_rfl)) (by kernel_rfl) (noSum_ok _ _) (args := [.int .i64 (.var 0), .int .i64 (.var 1), .int .i64 (.var 2)]) (args' := [.int .i64 a0, .int .i64 a1, .int .i64 a2])
      (.cons _ _ _ _ (.int _ _) (.cons _ _ _ _ (.int _ _) (.cons _ _ _ _ (.int _ _) .nil))) (n := 60) (factsOf_ok (e := (.add (.lit 3) (.rem (.bits .and .i64 (.var 0) (.lit 7)) (.lit 6)))) hc) ?_ W
    rw [shifts8_eq]; exact T.good_yes (shifts8_good _)
end Go.Proofs.Ytfkhlmmapopacaa.Sx
