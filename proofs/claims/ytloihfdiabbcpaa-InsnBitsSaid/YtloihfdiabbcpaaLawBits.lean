/- InsnBits: two words of instructions that differ in a register alone differ in its bits alone. -/
import Derived.Test.YtloihfdiabbcpaaProg
import Derived.Test.YtloihfdiabbcpaaSxSum
import Derived.Test.YtloihfdiabbcpaaInFin
namespace Go.Proofs.Ytloihfdiabbcpaa.Sx
open Go Go.RowKit
set_option linter.unusedVariables false
set_option linter.unusedSimpArgs false
set_option maxRecDepth 100000
theorem and_31 (x : Int) : 0 ≤ bitsI .and .i64 x 31 ∧ bitsI .and .i64 x 31 < 32 := by
  rw [show (31 : Int) = 2 ^ 5 - 1 from rfl, bits_and_mask x 5 (by omega)]; omega
/-- What differs within a mask alone differs within it. -/
theorem bv_mask (X Y Z M : BitVec 32) (hY : Y &&& ~~~M = 0) (hZ : Z &&& ~~~M = 0) : ((X ||| Y) ^^^ (X ||| Z)) &&& ~~~M = 0 := by
  apply BitVec.eq_of_getLsbD_eq
  intro i hi
  have h1 := congrArg (fun v => v.getLsbD i) hY
  have h2 := congrArg (fun v => v.getLsbD i) hZ
  simp [hi] at h1 h2 ⊢
  cases hx : X.getLsbD i <;> cases hy : Y.getLsbD i <;> cases hz : Z.getLsbD i <;> cases hm : M.getLsbD i <;> simp_all
theorem ofInt_nat (n : Nat) : BitVec.ofInt 32 (n : Int) = BitVec.ofNat 32 n := by
  apply BitVec.eq_of_toNat_eq; rw [BitVec.toNat_ofInt]; simp; omega
theorem differ {X y z : Int} {M : Int} (hX : 0 ≤ X ∧ X < 4294967296) (hy : 0 ≤ y ∧ y < 4294967296) (hz : 0 ≤ z ∧ z < 4294967296) (my : BitVec.ofInt 32 y &&& ~~~(BitVec.ofInt 32 M) = 0) (mz : BitVec.ofInt 32 z &&& ~~~(BitVec.ofInt 32 M) = 0) :
    bitsI .andNot .u32 (bitsI .xor .u32 (bitsI .or .u32 X y) (bitsI .or .u32 X z)) M = 0 := by
  have key : ∀ v : BitVec 32, BitVec.ofInt 32 (IntKind.u32.wrap (v.toNat : Int)) = v := by
    intro v
    rw [wrap_u32, show ((v.toNat : Int) % 4294967296) = v.toNat by have := v.isLt; omega, ofInt_nat]; simp
  show IntKind.u32.wrap ((BitVec.ofInt 32 (IntKind.u32.wrap ((BitVec.ofInt 32 (IntKind.u32.wrap ((BitVec.ofInt 32 X ||| BitVec.ofInt 32 y : BitVec 32).toNat : Int)) ^^^ BitVec.ofInt 32 (IntKind.u32.wrap ((BitVec.ofInt 32 X ||| BitVec.ofInt 32 z : BitVec 32).toNat : Int)) : BitVec 32).toNat : Int)) &&& ~~~(BitVec.ofInt 32 M) : BitVec 32).toNat : Int) = 0
  rw [key, key, key, bv_mask _ _ _ _ my mz]
  rfl
theorem reg_mask7 {k : Int} (h : 0 ≤ k ∧ k < 32) : BitVec.ofInt 32 (k * 128) &&& ~~~(BitVec.ofInt 32 3968) = 0 := by
  obtain ⟨k, rfl⟩ := Int.eq_ofNat_of_zero_le h.1
  have : ∀ n : Fin 32, BitVec.ofInt 32 ((n.val : Int) * 128) &&& ~~~(BitVec.ofInt 32 3968) = 0 := by decide
  exact this ⟨k, by omega⟩
theorem reg_mask15 {k : Int} (h : 0 ≤ k ∧ k < 32) : BitVec.ofInt 32 (k * 32768) &&& ~~~(BitVec.ofInt 32 1015808) = 0 := by
  obtain ⟨k, rfl⟩ := Int.eq_ofNat_of_zero_le h.1
  have : ∀ n : Fin 32, BitVec.ofInt 32 ((n.val : Int) * 32768) &&& ~~~(BitVec.ofInt 32 1015808) = 0 := by decide
  exact this ⟨k, by omega⟩
theorem reg_mask20 {k : Int} (h : 0 ≤ k ∧ k < 32) : BitVec.ofInt 32 (k * 1048576) &&& ~~~(BitVec.ofInt 32 32505856) = 0 := by
  obtain ⟨k, rfl⟩ := Int.eq_ofNat_of_zero_le h.1
  have : ∀ n : Fin 32, BitVec.ofInt 32 ((n.val : Int) * 1048576) &&& ~~~(BitVec.ofInt 32 32505856) = 0 := by decide
  exact this ⟨k, by omega⟩
theorem regF_lt {may : Bool} {k : Int} (h : regF may k = true) : 0 ≤ k ∧ k < 32 := by
  simp only [regF, Bool.and_eq_true, decide_eq_true_eq] at h; exact ⟨h.1, h.2.1⟩
theorem okF_regs {f : Nat} {a b c n : Int} (h : okF f a b c n = true) : regF (hasD f) a = true ∧ regF (has1 f) b = true ∧ regF (has2 f) c = true := by
  simp only [okF, Bool.and_eq_true] at h; exact h.2
/-- Two sums that differ in one place. -/
theorem split7 {w v X a a' : Int} (h1 : w = X + a * 128) (h2 : v = X + a' * 128) (hX : 0 ≤ X ∧ X < 4294967296) (ha : 0 ≤ a ∧ a < 32) (ha' : 0 ≤ a' ∧ a' < 32) (hz : X / 128 % 32 = 0) : bitsI .andNot .u32 (bitsI .xor .u32 w v) 3968 = 0 := by
  have e1 := or_5_7 hX ha hz; have e2 := or_5_7 hX ha' hz
  rw [h1, h2, ← e1, ← e2]
  exact differ hX (by omega) (by omega) (reg_mask7 ha) (reg_mask7 ha')
theorem split15 {w v X a a' : Int} (h1 : w = X + a * 32768) (h2 : v = X + a' * 32768) (hX : 0 ≤ X ∧ X < 4294967296) (ha : 0 ≤ a ∧ a < 32) (ha' : 0 ≤ a' ∧ a' < 32) (hz : X / 32768 % 32 = 0) : bitsI .andNot .u32 (bitsI .xor .u32 w v) 1015808 = 0 := by
  have e1 := or_5_15 hX ha hz; have e2 := or_5_15 hX ha' hz
  rw [h1, h2, ← e1, ← e2]
  exact differ hX (by omega) (by omega) (reg_mask15 ha) (reg_mask15 ha')
theorem split20 {w v X a a' : Int} (h1 : w = X + a * 1048576) (h2 : v = X + a' * 1048576) (hX : 0 ≤ X ∧ X < 4294967296) (ha : 0 ≤ a ∧ a < 32) (ha' : 0 ≤ a' ∧ a' < 32) (hz : X / 1048576 % 32 = 0) : bitsI .andNot .u32 (bitsI .xor .u32 w v) 32505856 = 0 := by
  have e1 := or_5_20 hX ha hz; have e2 := or_5_20 hX ha' hz
  rw [h1, h2, ← e1, ← e2]
  exact differ hX (by omega) (by omega) (reg_mask20 ha) (reg_mask20 ha')
theorem same_word (M x : Int) : bitsI .andNot .u32 (bitsI .xor .u32 x x) M = 0 := by
  show IntKind.u32.wrap ((BitVec.ofInt 32 (IntKind.u32.wrap ((BitVec.ofInt 32 x ^^^ BitVec.ofInt 32 x : BitVec 32).toNat : Int)) &&& ~~~(BitVec.ofInt 32 M) : BitVec 32).toNat : Int) = 0
  simp [wrap_u32]
theorem alone7 {r : Rw} (hr : r ∈ rowsL) {a b c n k : Int} (h : okF r.form a b c n = true) (h' : okF r.form k b c n = true) : bitsI .andNot .u32 (bitsI .xor .u32 (encW r.form r.bits a b c n) (encW r.form r.bits k b c n)) 3968 = 0 := by
  have hC := rowC_of hr
  have h8 := forms_ok r hr
  obtain ⟨nm, f, B⟩ := r
  simp only at h8 h h' hC ⊢
  obtain rfl | rfl | rfl | rfl | rfl | rfl | rfl | rfl : f = 0 ∨ f = 1 ∨ f = 2 ∨ f = 3 ∨ f = 4 ∨ f = 5 ∨ f = 6 ∨ f = 7 := by omega
  all_goals simp only [rowC, Bool.and_eq_true, Bool.or_eq_true, decide_eq_true_eq] at hC
  · obtain ⟨hn, ha, hb, hc⟩ := (ok_0 a b c n).1 h
    obtain ⟨_, ha', hb', hc'⟩ := (ok_0 k b c n).1 h'
    subst hb
    subst hc
    rw [enc_0 hC ha, enc_0 hC ha']
    have g0 : 0 ≤ n % 4294967296 / 1 % 1048576 ∧ n % 4294967296 / 1 % 1048576 < 1048576 := by clear hC; omega
    generalize n % 4294967296 / 1 % 1048576 = x0 at *
    exact split7 (X := B + x0 * 4096) (by omega) (by omega) (by omega) ha ha' (by omega)
  · obtain ⟨hn, ha, hb, hc⟩ := (ok_1 a b c n).1 h
    obtain ⟨_, ha', hb', hc'⟩ := (ok_1 k b c n).1 h'
    subst hb
    subst hc
    rw [enc_1 hC ha, enc_1 hC ha']
    have g0 : 0 ≤ n % 4294967296 / 2 % 1024 ∧ n % 4294967296 / 2 % 1024 < 1024 := by clear hC; omega
    have g1 : 0 ≤ n % 4294967296 / 2048 % 2 ∧ n % 4294967296 / 2048 % 2 < 2 := by clear hC; omega
    have g2 : 0 ≤ n % 4294967296 / 4096 % 256 ∧ n % 4294967296 / 4096 % 256 < 256 := by clear hC; omega
    have g3 : 0 ≤ n % 4294967296 / 1048576 % 2 ∧ n % 4294967296 / 1048576 % 2 < 2 := by clear hC; omega
    generalize n % 4294967296 / 2 % 1024 = x0 at *
    generalize n % 4294967296 / 2048 % 2 = x1 at *
    generalize n % 4294967296 / 4096 % 256 = x2 at *
    generalize n % 4294967296 / 1048576 % 2 = x3 at *
    exact split7 (X := B + x0 * 2097152 + x1 * 1048576 + x2 * 4096 + x3 * 2147483648) (by omega) (by omega) (by omega) ha ha' (by omega)
  · obtain ⟨hn, ha, hb, hc⟩ := (ok_2 a b c n).1 h
    obtain ⟨_, ha', hb', hc'⟩ := (ok_2 k b c n).1 h'
    subst hc
    rw [enc_2 hC ha hb, enc_2 hC ha' hb']
    have g0 : 0 ≤ n % 4294967296 / 1 % 4096 ∧ n % 4294967296 / 1 % 4096 < 4096 := by clear hC; omega
    generalize n % 4294967296 / 1 % 4096 = x0 at *
    exact split7 (X := B + b * 32768 + x0 * 1048576) (by omega) (by omega) (by omega) ha ha' (by omega)
  · obtain ⟨hn, ha, hb, hc⟩ := (ok_3 a b c n).1 h
    obtain ⟨_, ha', hb', hc'⟩ := (ok_3 k b c n).1 h'
    subst hc
    rw [enc_3 hC ha hb (by omega), enc_3 hC ha' hb' (by omega)]
    have g0 : 0 ≤ n % 4294967296 / 1 % 32 ∧ n % 4294967296 / 1 % 32 < 32 := by clear hC; omega
    generalize n % 4294967296 / 1 % 32 = x0 at *
    exact split7 (X := B + b * 32768 + x0 * 1048576) (by omega) (by omega) (by omega) ha ha' (by omega)
  · obtain ⟨hn, ha, hb, hc⟩ := (ok_4 a b c n).1 h
    obtain ⟨_, ha', hb', hc'⟩ := (ok_4 k b c n).1 h'
    have e : k = a := by omega
    subst e
    exact same_word 3968 _
  · obtain ⟨hn, ha, hb, hc⟩ := (ok_5 a b c n).1 h
    obtain ⟨_, ha', hb', hc'⟩ := (ok_5 k b c n).1 h'
    have e : k = a := by omega
    subst e
    exact same_word 3968 _
  · obtain ⟨hn, ha, hb, hc⟩ := (ok_6 a b c n).1 h
    obtain ⟨_, ha', hb', hc'⟩ := (ok_6 k b c n).1 h'
    rw [enc_6 hC ha hb hc, enc_6 hC ha' hb' hc']
    exact split7 (X := B + b * 32768 + c * 1048576) (by omega) (by omega) (by omega) ha ha' (by omega)
  · obtain ⟨hn, ha, hb, hc⟩ := (ok_7 a b c n).1 h
    obtain ⟨_, ha', hb', hc'⟩ := (ok_7 k b c n).1 h'
    have e : k = a := by omega
    subst e
    exact same_word 3968 _
theorem alone15 {r : Rw} (hr : r ∈ rowsL) {a b c n k : Int} (h : okF r.form a b c n = true) (h' : okF r.form a k c n = true) : bitsI .andNot .u32 (bitsI .xor .u32 (encW r.form r.bits a b c n) (encW r.form r.bits a k c n)) 1015808 = 0 := by
  have hC := rowC_of hr
  have h8 := forms_ok r hr
  obtain ⟨nm, f, B⟩ := r
  simp only at h8 h h' hC ⊢
  obtain rfl | rfl | rfl | rfl | rfl | rfl | rfl | rfl : f = 0 ∨ f = 1 ∨ f = 2 ∨ f = 3 ∨ f = 4 ∨ f = 5 ∨ f = 6 ∨ f = 7 := by omega
  all_goals simp only [rowC, Bool.and_eq_true, Bool.or_eq_true, decide_eq_true_eq] at hC
  · obtain ⟨hn, ha, hb, hc⟩ := (ok_0 a b c n).1 h
    obtain ⟨_, ha', hb', hc'⟩ := (ok_0 a k c n).1 h'
    have e : k = b := by omega
    subst e
    exact same_word 1015808 _
  · obtain ⟨hn, ha, hb, hc⟩ := (ok_1 a b c n).1 h
    obtain ⟨_, ha', hb', hc'⟩ := (ok_1 a k c n).1 h'
    have e : k = b := by omega
    subst e
    exact same_word 1015808 _
  · obtain ⟨hn, ha, hb, hc⟩ := (ok_2 a b c n).1 h
    obtain ⟨_, ha', hb', hc'⟩ := (ok_2 a k c n).1 h'
    subst hc
    rw [enc_2 hC ha hb, enc_2 hC ha' hb']
    have g0 : 0 ≤ n % 4294967296 / 1 % 4096 ∧ n % 4294967296 / 1 % 4096 < 4096 := by clear hC; omega
    generalize n % 4294967296 / 1 % 4096 = x0 at *
    exact split15 (X := B + a * 128 + x0 * 1048576) (by omega) (by omega) (by omega) hb hb' (by omega)
  · obtain ⟨hn, ha, hb, hc⟩ := (ok_3 a b c n).1 h
    obtain ⟨_, ha', hb', hc'⟩ := (ok_3 a k c n).1 h'
    subst hc
    rw [enc_3 hC ha hb (by omega), enc_3 hC ha' hb' (by omega)]
    have g0 : 0 ≤ n % 4294967296 / 1 % 32 ∧ n % 4294967296 / 1 % 32 < 32 := by clear hC; omega
    generalize n % 4294967296 / 1 % 32 = x0 at *
    exact split15 (X := B + a * 128 + x0 * 1048576) (by omega) (by omega) (by omega) hb hb' (by omega)
  · obtain ⟨hn, ha, hb, hc⟩ := (ok_4 a b c n).1 h
    obtain ⟨_, ha', hb', hc'⟩ := (ok_4 a k c n).1 h'
    subst ha
    rw [enc_4 hC hb hc, enc_4 hC hb' hc']
    have g0 : 0 ≤ n % 4294967296 / 2 % 16 ∧ n % 4294967296 / 2 % 16 < 16 := by clear hC; omega
    have g1 : 0 ≤ n % 4294967296 / 32 % 64 ∧ n % 4294967296 / 32 % 64 < 64 := by clear hC; omega
    have g2 : 0 ≤ n % 4294967296 / 2048 % 2 ∧ n % 4294967296 / 2048 % 2 < 2 := by clear hC; omega
    have g3 : 0 ≤ n % 4294967296 / 4096 % 2 ∧ n % 4294967296 / 4096 % 2 < 2 := by clear hC; omega
    generalize n % 4294967296 / 2 % 16 = x0 at *
    generalize n % 4294967296 / 32 % 64 = x1 at *
    generalize n % 4294967296 / 2048 % 2 = x2 at *
    generalize n % 4294967296 / 4096 % 2 = x3 at *
    exact split15 (X := B + c * 1048576 + x0 * 256 + x1 * 33554432 + x2 * 128 + x3 * 2147483648) (by omega) (by omega) (by omega) hb hb' (by omega)
  · obtain ⟨hn, ha, hb, hc⟩ := (ok_5 a b c n).1 h
    obtain ⟨_, ha', hb', hc'⟩ := (ok_5 a k c n).1 h'
    subst ha
    rw [enc_5 hC hb hc, enc_5 hC hb' hc']
    have g0 : 0 ≤ n % 4294967296 / 1 % 32 ∧ n % 4294967296 / 1 % 32 < 32 := by clear hC; omega
    have g1 : 0 ≤ n % 4294967296 / 32 % 128 ∧ n % 4294967296 / 32 % 128 < 128 := by clear hC; omega
    generalize n % 4294967296 / 1 % 32 = x0 at *
    generalize n % 4294967296 / 32 % 128 = x1 at *
    exact split15 (X := B + c * 1048576 + x0 * 128 + x1 * 33554432) (by omega) (by omega) (by omega) hb hb' (by omega)
  · obtain ⟨hn, ha, hb, hc⟩ := (ok_6 a b c n).1 h
    obtain ⟨_, ha', hb', hc'⟩ := (ok_6 a k c n).1 h'
    rw [enc_6 hC ha hb hc, enc_6 hC ha' hb' hc']
    exact split15 (X := B + a * 128 + c * 1048576) (by omega) (by omega) (by omega) hb hb' (by omega)
  · obtain ⟨hn, ha, hb, hc⟩ := (ok_7 a b c n).1 h
    obtain ⟨_, ha', hb', hc'⟩ := (ok_7 a k c n).1 h'
    have e : k = b := by omega
    subst e
    exact same_word 1015808 _
theorem alone20 {r : Rw} (hr : r ∈ rowsL) {a b c n k : Int} (h : okF r.form a b c n = true) (h' : okF r.form a b k n = true) : bitsI .andNot .u32 (bitsI .xor .u32 (encW r.form r.bits a b c n) (encW r.form r.bits a b k n)) 32505856 = 0 := by
  have hC := rowC_of hr
  have h8 := forms_ok r hr
  obtain ⟨nm, f, B⟩ := r
  simp only at h8 h h' hC ⊢
  obtain rfl | rfl | rfl | rfl | rfl | rfl | rfl | rfl : f = 0 ∨ f = 1 ∨ f = 2 ∨ f = 3 ∨ f = 4 ∨ f = 5 ∨ f = 6 ∨ f = 7 := by omega
  all_goals simp only [rowC, Bool.and_eq_true, Bool.or_eq_true, decide_eq_true_eq] at hC
  · obtain ⟨hn, ha, hb, hc⟩ := (ok_0 a b c n).1 h
    obtain ⟨_, ha', hb', hc'⟩ := (ok_0 a b k n).1 h'
    have e : k = c := by omega
    subst e
    exact same_word 32505856 _
  · obtain ⟨hn, ha, hb, hc⟩ := (ok_1 a b c n).1 h
    obtain ⟨_, ha', hb', hc'⟩ := (ok_1 a b k n).1 h'
    have e : k = c := by omega
    subst e
    exact same_word 32505856 _
  · obtain ⟨hn, ha, hb, hc⟩ := (ok_2 a b c n).1 h
    obtain ⟨_, ha', hb', hc'⟩ := (ok_2 a b k n).1 h'
    have e : k = c := by omega
    subst e
    exact same_word 32505856 _
  · obtain ⟨hn, ha, hb, hc⟩ := (ok_3 a b c n).1 h
    obtain ⟨_, ha', hb', hc'⟩ := (ok_3 a b k n).1 h'
    have e : k = c := by omega
    subst e
    exact same_word 32505856 _
  · obtain ⟨hn, ha, hb, hc⟩ := (ok_4 a b c n).1 h
    obtain ⟨_, ha', hb', hc'⟩ := (ok_4 a b k n).1 h'
    subst ha
    rw [enc_4 hC hb hc, enc_4 hC hb' hc']
    have g0 : 0 ≤ n % 4294967296 / 2 % 16 ∧ n % 4294967296 / 2 % 16 < 16 := by clear hC; omega
    have g1 : 0 ≤ n % 4294967296 / 32 % 64 ∧ n % 4294967296 / 32 % 64 < 64 := by clear hC; omega
    have g2 : 0 ≤ n % 4294967296 / 2048 % 2 ∧ n % 4294967296 / 2048 % 2 < 2 := by clear hC; omega
    have g3 : 0 ≤ n % 4294967296 / 4096 % 2 ∧ n % 4294967296 / 4096 % 2 < 2 := by clear hC; omega
    generalize n % 4294967296 / 2 % 16 = x0 at *
    generalize n % 4294967296 / 32 % 64 = x1 at *
    generalize n % 4294967296 / 2048 % 2 = x2 at *
    generalize n % 4294967296 / 4096 % 2 = x3 at *
    exact split20 (X := B + b * 32768 + x0 * 256 + x1 * 33554432 + x2 * 128 + x3 * 2147483648) (by omega) (by omega) (by omega) hc hc' (by omega)
  · obtain ⟨hn, ha, hb, hc⟩ := (ok_5 a b c n).1 h
    obtain ⟨_, ha', hb', hc'⟩ := (ok_5 a b k n).1 h'
    subst ha
    rw [enc_5 hC hb hc, enc_5 hC hb' hc']
    have g0 : 0 ≤ n % 4294967296 / 1 % 32 ∧ n % 4294967296 / 1 % 32 < 32 := by clear hC; omega
    have g1 : 0 ≤ n % 4294967296 / 32 % 128 ∧ n % 4294967296 / 32 % 128 < 128 := by clear hC; omega
    generalize n % 4294967296 / 1 % 32 = x0 at *
    generalize n % 4294967296 / 32 % 128 = x1 at *
    exact split20 (X := B + b * 32768 + x0 * 128 + x1 * 33554432) (by omega) (by omega) (by omega) hc hc' (by omega)
  · obtain ⟨hn, ha, hb, hc⟩ := (ok_6 a b c n).1 h
    obtain ⟨_, ha', hb', hc'⟩ := (ok_6 a b k n).1 h'
    rw [enc_6 hC ha hb hc, enc_6 hC ha' hb' hc']
    exact split20 (X := B + a * 128 + b * 32768) (by omega) (by omega) (by omega) hc hc' (by omega)
  · obtain ⟨hn, ha, hb, hc⟩ := (ok_7 a b c n).1 h
    obtain ⟨_, ha', hb', hc'⟩ := (ok_7 a b k n).1 h'
    have e : k = c := by omega
    subst e
    exact same_word 32505856 _
def ibitsT : T V := (.node (.cmp .neq (.fn5 1 (.lit 27) (.lit 3) (.lit 4) (.lit 5) (.lit 0)) (.lit 5374387)) (.ret (.bool (.lit false))) (.node (.fn5 1 (.lit 27) (.lit 3) (.lit 4) (.lit 5) (.lit 0)) (.node (.fn5 1 (.var 100) (.var 0) (.var 1) (.var 2) (.var 3)) (.node (.fn5 1 (.var 100) (.bits .and .i64 (.var 4) (.lit 31)) (.var 1) (.var 2) (.var 3)) (.node (.cmp .neq (.bits .andNot .u32 (.bits .xor .u32 (.fn5 1 (.var 100) (.var 0) (.var 1) (.var 2) (.var 3)) (.fn5 1 (.var 100) (.bits .and .i64 (.var 4) (.lit 31)) (.var 1) (.var 2) (.var 3))) (.lit 3968)) (.lit 0)) (.ret (.bool (.lit false))) (.node (.fn5 1 (.var 100) (.var 0) (.bits .and .i64 (.var 4) (.lit 31)) (.var 2) (.var 3)) (.node (.cmp .neq (.bits .andNot .u32 (.bits .xor .u32 (.fn5 1 (.var 100) (.var 0) (.var 1) (.var 2) (.var 3)) (.fn5 1 (.var 100) (.var 0) (.bits .and .i64 (.var 4) (.lit 31)) (.var 2) (.var 3))) (.lit 1015808)) (.lit 0)) (.ret (.bool (.lit false))) (.node (.fn5 1 (.var 100) (.var 0) (.var 1) (.bits .and .i64 (.var 4) (.lit 31)) (.var 3)) (.ret (.bool (.cmp .eql (.bits .andNot .u32 (.bits .xor .u32 (.fn5 1 (.var 100) (.var 0) (.var 1) (.var 2) (.var 3)) (.fn5 1 (.var 100) (.var 0) (.var 1) (.bits .and .i64 (.var 4) (.lit 31)) (.var 3))) (.lit 32505856)) (.lit 0)))) (.ret (.bool (.lit true))))) (.node (.fn5 1 (.var 100) (.var 0) (.var 1) (.bits .and .i64 (.var 4) (.lit 31)) (.var 3)) (.ret (.bool (.cmp .eql (.bits .andNot .u32 (.bits .xor .u32 (.fn5 1 (.var 100) (.var 0) (.var 1) (.var 2) (.var 3)) (.fn5 1 (.var 100) (.var 0) (.var 1) (.bits .and .i64 (.var 4) (.lit 31)) (.var 3))) (.lit 32505856)) (.lit 0)))) (.ret (.bool (.lit true)))))) (.node (.fn5 1 (.var 100) (.var 0) (.bits .and .i64 (.var 4) (.lit 31)) (.var 2) (.var 3)) (.node (.cmp .neq (.bits .andNot .u32 (.bits .xor .u32 (.fn5 1 (.var 100) (.var 0) (.var 1) (.var 2) (.var 3)) (.fn5 1 (.var 100) (.var 0) (.bits .and .i64 (.var 4) (.lit 31)) (.var 2) (.var 3))) (.lit 1015808)) (.lit 0)) (.ret (.bool (.lit false))) (.node (.fn5 1 (.var 100) (.var 0) (.var 1) (.bits .and .i64 (.var 4) (.lit 31)) (.var 3)) (.ret (.bool (.cmp .eql (.bits .andNot .u32 (.bits .xor .u32 (.fn5 1 (.var 100) (.var 0) (.var 1) (.var 2) (.var 3)) (.fn5 1 (.var 100) (.var 0) (.var 1) (.bits .and .i64 (.var 4) (.lit 31)) (.var 3))) (.lit 32505856)) (.lit 0)))) (.ret (.bool (.lit true))))) (.node (.fn5 1 (.var 100) (.var 0) (.var 1) (.bits .and .i64 (.var 4) (.lit 31)) (.var 3)) (.ret (.bool (.cmp .eql (.bits .andNot .u32 (.bits .xor .u32 (.fn5 1 (.var 100) (.var 0) (.var 1) (.var 2) (.var 3)) (.fn5 1 (.var 100) (.var 0) (.var 1) (.bits .and .i64 (.var 4) (.lit 31)) (.var 3))) (.lit 32505856)) (.lit 0)))) (.ret (.bool (.lit true)))))) (.ret (.bool (.lit true)))) (.ret (.bool (.lit false)))))
theorem ibits_eq : callTop Try.prog sumB 60 7 [.agg [.str (.var 0), .int .i64 (.var 0), .int .i64 (.var 1), .int .i64 (.var 2), .int .i64 (.var 3)], .int .i64 (.var 4)] [] = ibitsT := by kernel_rfl
theorem ibits_good {η : Env} (h : InEnv η) : ibitsT.good η := by
  simp only [ibitsT, T.good, B.prop, E.den, S.den, propI, h.fb5, h.fi5, eB, eI, show η.i 100 = (rowOf rowsL (η.s 0).toList : Int) from h.idx 0, Int.toNat_natCast]
  have hE : encB rowsL (Int.toNat 27) 3 4 5 0 = true := by kernel_rfl
  have hI : encI rowsL (Int.toNat 27) 3 4 5 0 = 5374387 := by kernel_rfl
  generalize rowOf rowsL (η.s 0).toList = k
  have key7 : ∀ m, encB rowsL k (η.i 0) (η.i 1) (η.i 2) (η.i 3) = true → encB rowsL k m (η.i 1) (η.i 2) (η.i 3) = true → bitsI .andNot .u32 (bitsI .xor .u32 (encI rowsL k (η.i 0) (η.i 1) (η.i 2) (η.i 3)) (encI rowsL k m (η.i 1) (η.i 2) (η.i 3))) 3968 = 0 := by
    intro m h1 h2
    obtain ⟨r, hr, hm, hok, e1⟩ := enc_ok h1
    obtain ⟨r', hr', hm', hok', e2⟩ := enc_ok h2
    rw [hr] at hr'; injection hr' with hr'; subst hr'
    rw [e1, e2]; exact alone7 hm hok hok'
  have key15 : ∀ m, encB rowsL k (η.i 0) (η.i 1) (η.i 2) (η.i 3) = true → encB rowsL k (η.i 0) m (η.i 2) (η.i 3) = true → bitsI .andNot .u32 (bitsI .xor .u32 (encI rowsL k (η.i 0) (η.i 1) (η.i 2) (η.i 3)) (encI rowsL k (η.i 0) m (η.i 2) (η.i 3))) 1015808 = 0 := by
    intro m h1 h2
    obtain ⟨r, hr, hm, hok, e1⟩ := enc_ok h1
    obtain ⟨r', hr', hm', hok', e2⟩ := enc_ok h2
    rw [hr] at hr'; injection hr' with hr'; subst hr'
    rw [e1, e2]; exact alone15 hm hok hok'
  have key20 : ∀ m, encB rowsL k (η.i 0) (η.i 1) (η.i 2) (η.i 3) = true → encB rowsL k (η.i 0) (η.i 1) m (η.i 3) = true → bitsI .andNot .u32 (bitsI .xor .u32 (encI rowsL k (η.i 0) (η.i 1) (η.i 2) (η.i 3)) (encI rowsL k (η.i 0) (η.i 1) m (η.i 3))) 32505856 = 0 := by
    intro m h1 h2
    obtain ⟨r, hr, hm, hok, e1⟩ := enc_ok h1
    obtain ⟨r', hr', hm', hok', e2⟩ := enc_ok h2
    rw [hr] at hr'; injection hr' with hr'; subst hr'
    rw [e1, e2]; exact alone20 hm hok hok'
  have t20 : ∀ m, encB rowsL k (η.i 0) (η.i 1) (η.i 2) (η.i 3) = true → (encB rowsL k (η.i 0) (η.i 1) m (η.i 3) = true → bitsI .andNot .u32 (bitsI .xor .u32 (encI rowsL k (η.i 0) (η.i 1) (η.i 2) (η.i 3)) (encI rowsL k (η.i 0) (η.i 1) m (η.i 3))) 32505856 = 0) ∧ (¬ encB rowsL k (η.i 0) (η.i 1) m (η.i 3) = true → True) :=
    fun m h1 => ⟨fun h2 => key20 m h1 h2, fun _ => trivial⟩
  refine ⟨fun hn => absurd hI hn, fun _ => ⟨fun _ => ⟨fun h0 => ⟨fun h7 => ⟨fun hn => absurd (key7 _ h0 h7) hn, fun _ => ⟨fun h15 => ⟨fun hn => absurd (key15 _ h0 h15) hn, fun _ => t20 _ h0⟩, fun _ => t20 _ h0⟩⟩,
    fun _ => ⟨fun h15 => ⟨fun hn => absurd (key15 _ h0 h15) hn, fun _ => t20 _ h0⟩, fun _ => t20 _ h0⟩⟩, fun _ => trivial⟩, fun hn => absurd hE hn⟩⟩
theorem ibits_walk (s0 : ByteArray) (a0 a1 a2 a3 a4 : Int) (W : World) :
    Calls Try.prog 7 #[.agg #[.string s0, .int .i64 a0, .int .i64 a1, .int .i64 a2, .int .i64 a3], .int .i64 a4] W fun e W' => e = .returned (.bool true) ∧ Below W.heap.size W W' := by
  refine law_ok (η := env2 (fun m => if m = 0 then a0 else if m = 1 then a1 else if m = 2 then a2 else if m = 3 then a3 else a4) (fun _ => s0)) in_plain in_follows (sumB_ok _ (env2_ok _ _)) (n := 60) (args := [.agg [.str (.var 0), .int .i64 (.var 0), .int .i64 (.var 1), .int .i64 (.var 2), .int .i64 (.var 3)], .int .i64 (.var 4)]) (args' := [.agg #[.string s0, .int .i64 a0, .int .i64 a1, .int .i64 a2, .int .i64 a3], .int .i64 a4])
    (.cons _ _ _ _ (.agg _ [.string s0, .int .i64 a0, .int .i64 a1, .int .i64 a2, .int .i64 a3] (.cons _ _ _ _ (.str (.var 0)) (.cons _ _ _ _ (.int _ (.var 0)) (.cons _ _ _ _ (.int _ (.var 1)) (.cons _ _ _ _ (.int _ (.var 2)) (.cons _ _ _ _ (.int _ (.var 3)) .nil)))))) (.cons _ _ _ _ (.int _ (.var 4)) .nil)) facts_none ?_ W
  rw [ibits_eq]; exact T.good_yes (ibits_good (env2_ok _ _))
end Go.Proofs.Ytloihfdiabbcpaa.Sx
