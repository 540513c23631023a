/- Instructions: what is encoded is decoded as it was, and back. -/
import Derived.Test.YtloihfdiabbcpaaProg
import Derived.Test.YtloihfdiabbcpaaSxSum
import Derived.Test.YtloihfdiabbcpaaInSum
namespace Go.Proofs.Ytloihfdiabbcpaa.Sx
open Go Go.RowKit
set_option linter.unusedVariables false
set_option linter.unusedSimpArgs false
set_option maxRecDepth 100000
theorem nat_mask (w p m : Nat) : w &&& ((2 ^ m - 1) * 2 ^ p) = w / 2 ^ p % 2 ^ m * 2 ^ p := by
  rw [← Nat.shiftLeft_eq, ← Nat.shiftLeft_eq]
  apply Nat.eq_of_testBit_eq
  intro i
  simp only [Nat.testBit_and, Nat.testBit_shiftLeft, Nat.testBit_two_pow_sub_one, Nat.testBit_mod_two_pow, Nat.testBit_div_two_pow]
  by_cases h : p ≤ i
  · simp [h, Bool.and_comm]
  · simp [h]
theorem mask7 {w : Int} (hw : 0 ≤ w ∧ w < 4294967296) : bitsI .and .u32 w 127 = w % 128 := by have h := and_low 7 hw (by omega); simpa using h
theorem mask28 {w : Int} (hw : 0 ≤ w ∧ w < 4294967296) : bitsI .and .u32 w 28799 = w % 128 + w / 4096 % 8 * 4096 := by
  rw [bits_and hw (by omega)]
  obtain ⟨w, rfl⟩ := Int.eq_ofNat_of_zero_le hw.1
  simp only [Int.toNat_natCast]
  have e : (28799 : Int).toNat = (2 ^ 7 - 1) * 2 ^ 0 ||| (2 ^ 3 - 1) * 2 ^ 12 := by decide
  rw [e, Nat.and_or_distrib_left, nat_mask, nat_mask]
  rw [nat_or _ _ 12 3 (by omega) (by omega)]
  omega
theorem maskR {w : Int} (hw : 0 ≤ w ∧ w < 4294967296) : bitsI .and .u32 w 4261441663 = w % 128 + w / 4096 % 8 * 4096 + w / 33554432 * 33554432 := by
  rw [bits_and hw (by omega)]
  obtain ⟨w, rfl⟩ := Int.eq_ofNat_of_zero_le hw.1
  simp only [Int.toNat_natCast]
  have e : (4261441663 : Int).toNat = ((2 ^ 7 - 1) * 2 ^ 0 ||| (2 ^ 3 - 1) * 2 ^ 12) ||| (2 ^ 7 - 1) * 2 ^ 25 := by decide
  rw [e, Nat.and_or_distrib_left, Nat.and_or_distrib_left, nat_mask, nat_mask, nat_mask]
  rw [nat_or _ _ 12 3 (by omega) (by omega), nat_or _ _ 25 7 (by omega) (by omega)]
  omega
theorem mask32 {w : Int} (hw : 0 ≤ w ∧ w < 4294967296) : bitsI .and .u32 w 4294967295 = w := by
  have h := and_low 32 hw (by omega)
  rw [show (2 : Int) ^ 32 - 1 = 4294967295 from rfl] at h
  rw [h]; omega
theorem fld7 {w : Int} (hw : 0 ≤ w ∧ w < 4294967296) : fldI true 7 w = w / 128 % 32 := by have h := part 7 5 hw (by omega) (by omega); simpa [fldI] using h
theorem fld15 {w : Int} (hw : 0 ≤ w ∧ w < 4294967296) : fldI true 15 w = w / 32768 % 32 := by have h := part 15 5 hw (by omega) (by omega); simpa [fldI] using h
theorem fld20 {w : Int} (hw : 0 ≤ w ∧ w < 4294967296) : fldI true 20 w = w / 1048576 % 32 := by have h := part 20 5 hw (by omega) (by omega); simpa [fldI] using h
theorem fld0 (p w : Int) : fldI false p w = 0 := rfl
theorem tmod2 (n : Int) : n.tmod 2 = 0 ↔ n % 2 = 0 := by rw [tmod_eq]; split <;> omega
def rowC (r : Rw) : Bool := match r.form with
  | 0 => decide (0 ≤ r.bits) && decide (r.bits < 128)
  | 1 => decide (0 ≤ r.bits) && decide (r.bits < 128)
  | 2 => decide (0 ≤ r.bits) && decide (r.bits % 128 + r.bits / 4096 % 8 * 4096 = r.bits)
  | 4 => decide (0 ≤ r.bits) && decide (r.bits % 128 + r.bits / 4096 % 8 * 4096 = r.bits)
  | 5 => decide (0 ≤ r.bits) && decide (r.bits % 128 + r.bits / 4096 % 8 * 4096 = r.bits)
  | 3 => decide (0 ≤ r.bits) && (decide (r.bits < 4294967296) && decide (r.bits % 128 + r.bits / 4096 % 8 * 4096 + r.bits / 33554432 * 33554432 = r.bits))
  | 6 => decide (0 ≤ r.bits) && (decide (r.bits < 4294967296) && decide (r.bits % 128 + r.bits / 4096 % 8 * 4096 + r.bits / 33554432 * 33554432 = r.bits))
  | _ => decide (r.bits = 115) || decide (r.bits = 1048691)
theorem rows_C : rowsL.all rowC = true := by kernel_rfl
def sameRw (q r : Rw) : Bool := (q.name == r.name) && ((q.form == r.form) && (q.bits == r.bits))
theorem sameRw_eq {q r : Rw} (h : sameRw q r = true) : q = r := by
  cases q; cases r; simp only [sameRw, Bool.and_eq_true, beq_iff_eq] at h; obtain ⟨h1, h2, h3⟩ := h; subst h1 h2 h3; rfl
theorem rows_at : (rowsL.all fun r => match rowsL[rowOf rowsL r.name]? with | some q => sameRw q r | none => false) = true := by kernel_rfl
theorem row_at {r : Rw} (h : r ∈ rowsL) : rowsL[rowOf rowsL r.name]? = some r := by
  have := List.all_eq_true.1 rows_at r h
  split at this
  · rename_i q hq; rw [hq, sameRw_eq this]
  · simp at this
theorem rows_apart : (rowsL.all fun r => rowsL.all fun q => !(Nat.beq (Nat.land r.bits.toNat (mask q.form).toNat) (Nat.land q.bits.toNat (mask r.form).toNat)) || sameRw r q) = true := by kernel_rfl
theorem mask_in (f : Nat) : 0 ≤ mask f ∧ mask f < 4294967296 := by unfold mask; split <;> omega
/-- No word has two rows. -/
theorem row_one {r q : Rw} (hr : r ∈ rowsL) (hq : q ∈ rowsL) {w : Int} (hw : 0 ≤ w ∧ w < 4294967296) (h1 : bitsI .and .u32 w (mask r.form) = r.bits) (h2 : bitsI .and .u32 w (mask q.form) = q.bits) : r = q := by
  have := List.all_eq_true.1 (List.all_eq_true.1 rows_apart r hr) q hq
  rw [bits_and hw (mask_in _)] at h1 h2
  have e : Nat.land r.bits.toNat (mask q.form).toNat = Nat.land q.bits.toNat (mask r.form).toNat := by
    show r.bits.toNat &&& (mask q.form).toNat = q.bits.toNat &&& (mask r.form).toNat
    rw [← h1, ← h2]
    simp only [Int.toNat_natCast]
    rw [Nat.and_assoc, Nat.and_assoc, Nat.and_comm (mask r.form).toNat]
  rw [e] at this
  have hb : ∀ n : Nat, Nat.beq n n = true := fun n => Nat.beq_refl n
  rw [hb] at this
  exact sameRw_eq (by simpa using this)
theorem find_one {p : Rw → Bool} : ∀ {l : List Rw} {r : Rw}, r ∈ l → p r = true → (∀ q ∈ l, p q = true → q = r) → l.find? p = some r
  | q :: l, r, hm, hp, hu => by
    by_cases hq : p q = true
    · rw [List.find?_cons_of_pos hq, hu q (by simp) hq]
    · rw [List.find?_cons_of_neg hq]
      rcases List.mem_cons.1 hm with rfl | hm
      · exact absurd hp hq
      · exact find_one hm hp (fun q hq => hu q (by simp [hq]))
theorem decR_of {r : Rw} (hr : r ∈ rowsL) {w : Int} (hw : 0 ≤ w ∧ w < 4294967296) (h : bitsI .and .u32 w (mask r.form) = r.bits) : decR w = some r :=
  find_one hr (by simpa using h) (fun q hq hp => row_one hq hr hw (by simpa using hp) h)
theorem decR_some {r : Rw} {w : Int} (h : decR w = some r) : r ∈ rowsL ∧ bitsI .and .u32 w (mask r.form) = r.bits :=
  ⟨List.mem_of_find?_eq_some h, by simpa using List.find?_some h⟩
theorem numI_0 {w : Int} : numI 0 w = numV 0 w := by unfold numI; rw [if_neg (by simp [shS])]
theorem ok_0 (a b c n : Int) : okF 0 a b c n = true ↔ (0 ≤ n ∧ n ≤ 1048575) ∧ (0 ≤ a ∧ a < 32) ∧ b = 0 ∧ c = 0 := by
  simp only [okF, fitsF, regF, hasD, has1, has2, least, most, shE, Bool.and_eq_true, Bool.or_eq_true, decide_eq_true_eq, Bool.not_true, Bool.not_false, true_or, false_or, and_true, tmod2, Bool.false_eq_true]
  all_goals omega
theorem cut_0 {op a x0 w : Int} (hop : 0 ≤ op ∧ op < 128) (ha : 0 ≤ a ∧ a < 32) (hx0 : 0 ≤ x0 ∧ x0 < 1048576) (e : w = op + a * 128 + x0 * 4096) : (0 ≤ w ∧ w < 4294967296) ∧ w % 128 = op ∧ w / 128 % 32 = a ∧ w / 4096 % 1048576 = x0 := by
  refine ⟨by omega, by omega, by omega, by omega⟩
theorem ex_0 {w : Int} (hw : 0 ≤ w ∧ w < 4294967296) : w = w % 128 + w / 128 % 32 * 128 + w / 4096 % 1048576 * 4096 := by
  have s0 : w = w % 128 + 128 * (w / 128) := by omega
  have s1 : w / 128 = w / 128 % 32 + 32 * (w / 4096) := by omega
  have s2 : w / 4096 = w / 4096 % 1048576 + 1048576 * (0) := by omega
  generalize w % 128 = v0 at *
  generalize w / 128 % 32 = v1 at *
  generalize w / 4096 % 1048576 = v2 at *
  generalize w / 4096 = W2 at *
  generalize w / 128 = W1 at *
  omega
theorem nn_0 {n : Int} : n % 4294967296 / 1 % 1048576 * 1 = n % 1048576 := by
  have e0 : n % 1048576 = n % 4294967296 % 1048576 := by omega
  rw [e0]
  generalize n % 4294967296 = m at *
  have s0 : m / 1 = m / 1 % 1048576 + 1048576 * (m / 1048576) := by omega
  have z : m % 1048576 = m - 1048576 * (m / 1048576) := by omega
  have s : m / 1 = m := by omega
  rw [z]
  clear z e0
  generalize m / 1 % 1048576 = v0 at *
  generalize m / 1048576 = M0 at *
  generalize m / 1 = M at *
  omega
theorem nf_0 {x0 m rest : Int} (hx0 : 0 ≤ x0 ∧ x0 < 1048576) (hr : 0 ≤ rest) (e : m = x0 * 1 + 1048576 * rest) : m / 1 % 1048576 = x0 := by
  omega
theorem d1_0 {B a b c n w : Int} (hB : 0 ≤ B ∧ B < 128) (h : okF 0 a b c n = true) (e : encW 0 B a b c n = w) : (0 ≤ w ∧ w < 4294967296) ∧ bitsI .and .u32 w (mask 0) = B ∧ fldI (hasD 0) 7 w = a ∧ fldI (has1 0) 15 w = b ∧ fldI (has2 0) 20 w = c ∧ numI 0 w = n := by
  obtain ⟨hn, ha, hb, hc⟩ := (ok_0 a b c n).1 h
  subst hb
  subst hc
  rw [enc_0 hB ha] at e
  have hnn := nn_0 (n := n)
  have g0 : 0 ≤ n % 4294967296 / 1 % 1048576 ∧ n % 4294967296 / 1 % 1048576 < 1048576 := by clear hB e hnn; omega
  generalize n % 4294967296 / 1 % 1048576 = x0 at *
  obtain ⟨hw, t0, t1, t2⟩ := cut_0 hB ha g0 (w := w) (by clear hnn; omega)
  rw [show mask 0 = 127 from rfl, mask7 hw, show hasD 0 = true from rfl, show has1 0 = false from rfl, show has2 0 = false from rfl]
  rw [fld7 hw]
  simp only [fld0, true_and]
  have hv := num_0 hw
  rw [t2, hnn] at hv
  have hN : numI 0 w = n := by rw [numI_0, hv]; clear hv e hnn t0 t1 t2; omega
  exact ⟨hw, t0, t1, hN⟩
theorem d2_0 {B w : Int} (hB : 0 ≤ B ∧ B < 128) (hw : 0 ≤ w ∧ w < 4294967296) (h : bitsI .and .u32 w (mask 0) = B) : okF 0 (fldI (hasD 0) 7 w) (fldI (has1 0) 15 w) (fldI (has2 0) 20 w) (numI 0 w) = true ∧ encW 0 B (fldI (hasD 0) 7 w) (fldI (has1 0) 15 w) (fldI (has2 0) 20 w) (numI 0 w) = w := by
  rw [show mask 0 = 127 from rfl, mask7 hw] at h
  rw [show hasD 0 = true from rfl, show has1 0 = false from rfl, show has2 0 = false from rfl]
  rw [fld7 hw]
  simp only [fld0]
  have hex := ex_0 hw
  have hv := num_0 hw
  have g0 : 0 ≤ w % 128 ∧ w % 128 < 128 := by clear hB h hex hv; omega
  have g1 : 0 ≤ w / 128 % 32 ∧ w / 128 % 32 < 32 := by clear hB h hex hv; omega
  have g2 : 0 ≤ w / 4096 % 1048576 ∧ w / 4096 % 1048576 < 1048576 := by clear hB h hex hv; omega
  have hN := numI_0 (w := w)
  rw [hv] at hN
  clear hv
  generalize w % 128 = v_op at *
  generalize w / 128 % 32 = v_a at *
  generalize w / 4096 % 1048576 = v_x0 at *
  generalize numI 0 w = n at *
  have hr : 0 ≤ n ∧ n ≤ 1048575 := by clear hB h hex; omega
  have hm : n % 4294967296 = v_x0 * 1 + 1048576 * 0 := by clear hB h hex; omega
  have hrest : (0 : Int) ≤ 0 := by omega
  have hp := nf_0 g2 hrest hm
  have p0 := hp
  refine ⟨(ok_0 _ _ _ _).2 (by clear hB h hex hN; omega), ?_⟩
  rw [enc_0 hB g1, p0]
  clear hB hN hm hr p0
  all_goals omega
theorem numI_1 {w : Int} (hv : 0 ≤ numV 1 w ∧ numV 1 w < 2097152) : numI 1 w = if numV 1 w / 1048576 = 0 then numV 1 w else numV 1 w - 2097152 := by
  have e : (numV 1 w).fdiv (2 ^ shN .i64 (shB 1 - 1)) = numV 1 w / 1048576 := by
    rw [show (2 : Int) ^ shN .i64 (shB 1 - 1) = 1048576 from rfl, Int.fdiv_eq_ediv_of_nonneg _ (by omega)]
  unfold numI
  rw [e, show shS 1 = true from rfl, show (2 : Int) ^ (shB 1).toNat = 2097152 from rfl, wrap_i64]
  by_cases h : numV 1 w / 1048576 = 0
  · rw [if_neg (fun q => q.2 h), if_pos h]
  · rw [if_pos ⟨rfl, h⟩, if_neg h]; omega
theorem ok_1 (a b c n : Int) : okF 1 a b c n = true ↔ (-1048576 ≤ n ∧ n ≤ 1048575 ∧ n % 2 = 0) ∧ (0 ≤ a ∧ a < 32) ∧ b = 0 ∧ c = 0 := by
  simp only [okF, fitsF, regF, hasD, has1, has2, least, most, shE, Bool.and_eq_true, Bool.or_eq_true, decide_eq_true_eq, Bool.not_true, Bool.not_false, true_or, false_or, and_true, tmod2, Bool.false_eq_true]
  all_goals omega
theorem cut_1 {op a x2 x1 x0 x3 w : Int} (hop : 0 ≤ op ∧ op < 128) (ha : 0 ≤ a ∧ a < 32) (hx2 : 0 ≤ x2 ∧ x2 < 256) (hx1 : 0 ≤ x1 ∧ x1 < 2) (hx0 : 0 ≤ x0 ∧ x0 < 1024) (hx3 : 0 ≤ x3 ∧ x3 < 2) (e : w = op + a * 128 + x2 * 4096 + x1 * 1048576 + x0 * 2097152 + x3 * 2147483648) : (0 ≤ w ∧ w < 4294967296) ∧ w % 128 = op ∧ w / 128 % 32 = a ∧ w / 4096 % 256 = x2 ∧ w / 1048576 % 2 = x1 ∧ w / 2097152 % 1024 = x0 ∧ w / 2147483648 % 2 = x3 := by
  refine ⟨by omega, by omega, by omega, by omega, by omega, by omega, by omega⟩
theorem ex_1 {w : Int} (hw : 0 ≤ w ∧ w < 4294967296) : w = w % 128 + w / 128 % 32 * 128 + w / 4096 % 256 * 4096 + w / 1048576 % 2 * 1048576 + w / 2097152 % 1024 * 2097152 + w / 2147483648 % 2 * 2147483648 := by
  have s0 : w = w % 128 + 128 * (w / 128) := by omega
  have s1 : w / 128 = w / 128 % 32 + 32 * (w / 4096) := by omega
  have s2 : w / 4096 = w / 4096 % 256 + 256 * (w / 1048576) := by omega
  have s3 : w / 1048576 = w / 1048576 % 2 + 2 * (w / 2097152) := by omega
  have s4 : w / 2097152 = w / 2097152 % 1024 + 1024 * (w / 2147483648) := by omega
  have s5 : w / 2147483648 = w / 2147483648 % 2 + 2 * (0) := by omega
  generalize w % 128 = v0 at *
  generalize w / 128 % 32 = v1 at *
  generalize w / 4096 % 256 = v2 at *
  generalize w / 1048576 % 2 = v3 at *
  generalize w / 2097152 % 1024 = v4 at *
  generalize w / 2147483648 % 2 = v5 at *
  generalize w / 2147483648 = W5 at *
  generalize w / 2097152 = W4 at *
  generalize w / 1048576 = W3 at *
  generalize w / 4096 = W2 at *
  generalize w / 128 = W1 at *
  omega
theorem nn_1 {n : Int} (h : n % 2 = 0) : n % 4294967296 / 2 % 1024 * 2 + n % 4294967296 / 2048 % 2 * 2048 + n % 4294967296 / 4096 % 256 * 4096 + n % 4294967296 / 1048576 % 2 * 1048576 = n % 2097152 := by
  have e0 : n % 2097152 = n % 4294967296 % 2097152 := by omega
  rw [e0]
  have e1 : n % 4294967296 % 2 = 0 := by omega
  clear h
  generalize n % 4294967296 = m at *
  have s : m = 2 * (m / 2) := by omega
  have s0 : m / 2 = m / 2 % 1024 + 1024 * (m / 2048) := by omega
  have s1 : m / 2048 = m / 2048 % 2 + 2 * (m / 4096) := by omega
  have s2 : m / 4096 = m / 4096 % 256 + 256 * (m / 1048576) := by omega
  have s3 : m / 1048576 = m / 1048576 % 2 + 2 * (m / 2097152) := by omega
  have z : m % 2097152 = m - 2097152 * (m / 2097152) := by omega
  rw [z]
  clear z e0 e1
  generalize m / 2 % 1024 = v0 at *
  generalize m / 2048 % 2 = v1 at *
  generalize m / 4096 % 256 = v2 at *
  generalize m / 1048576 % 2 = v3 at *
  generalize m / 2097152 = M3 at *
  generalize m / 1048576 = M2 at *
  generalize m / 4096 = M1 at *
  generalize m / 2048 = M0 at *
  generalize m / 2 = M at *
  omega
theorem nf_1 {x0 x1 x2 x3 m rest : Int} (hx0 : 0 ≤ x0 ∧ x0 < 1024) (hx1 : 0 ≤ x1 ∧ x1 < 2) (hx2 : 0 ≤ x2 ∧ x2 < 256) (hx3 : 0 ≤ x3 ∧ x3 < 2) (hr : 0 ≤ rest) (e : m = x0 * 2 + x1 * 2048 + x2 * 4096 + x3 * 1048576 + 2097152 * rest) : m / 2 % 1024 = x0 ∧ m / 2048 % 2 = x1 ∧ m / 4096 % 256 = x2 ∧ m / 1048576 % 2 = x3 := by
  refine ⟨by omega, by omega, by omega, by omega⟩
theorem d1_1 {B a b c n w : Int} (hB : 0 ≤ B ∧ B < 128) (h : okF 1 a b c n = true) (e : encW 1 B a b c n = w) : (0 ≤ w ∧ w < 4294967296) ∧ bitsI .and .u32 w (mask 1) = B ∧ fldI (hasD 1) 7 w = a ∧ fldI (has1 1) 15 w = b ∧ fldI (has2 1) 20 w = c ∧ numI 1 w = n := by
  obtain ⟨hn, ha, hb, hc⟩ := (ok_1 a b c n).1 h
  subst hb
  subst hc
  rw [enc_1 hB ha] at e
  have hnn := nn_1 (n := n) (by omega)
  have g0 : 0 ≤ n % 4294967296 / 2 % 1024 ∧ n % 4294967296 / 2 % 1024 < 1024 := by clear hB e hnn; omega
  have g1 : 0 ≤ n % 4294967296 / 2048 % 2 ∧ n % 4294967296 / 2048 % 2 < 2 := by clear hB e hnn; omega
  have g2 : 0 ≤ n % 4294967296 / 4096 % 256 ∧ n % 4294967296 / 4096 % 256 < 256 := by clear hB e hnn; omega
  have g3 : 0 ≤ n % 4294967296 / 1048576 % 2 ∧ n % 4294967296 / 1048576 % 2 < 2 := by clear hB e hnn; omega
  generalize n % 4294967296 / 2 % 1024 = x0 at *
  generalize n % 4294967296 / 2048 % 2 = x1 at *
  generalize n % 4294967296 / 4096 % 256 = x2 at *
  generalize n % 4294967296 / 1048576 % 2 = x3 at *
  obtain ⟨hw, t0, t1, t2, t3, t4, t5⟩ := cut_1 hB ha g2 g1 g0 g3 (w := w) (by clear hnn; omega)
  rw [show mask 1 = 127 from rfl, mask7 hw, show hasD 1 = true from rfl, show has1 1 = false from rfl, show has2 1 = false from rfl]
  rw [fld7 hw]
  simp only [fld0, true_and]
  have hv := num_1 hw
  rw [t4, t3, t2, t5, hnn] at hv
  have hN : numI 1 w = n := by
    rw [numI_1 (by rw [hv]; clear hv e hnn; omega), hv]; clear hv e hnn t0 t1 t2 t3 t4 t5; split <;> omega
  exact ⟨hw, t0, t1, hN⟩
theorem d2_1 {B w : Int} (hB : 0 ≤ B ∧ B < 128) (hw : 0 ≤ w ∧ w < 4294967296) (h : bitsI .and .u32 w (mask 1) = B) : okF 1 (fldI (hasD 1) 7 w) (fldI (has1 1) 15 w) (fldI (has2 1) 20 w) (numI 1 w) = true ∧ encW 1 B (fldI (hasD 1) 7 w) (fldI (has1 1) 15 w) (fldI (has2 1) 20 w) (numI 1 w) = w := by
  rw [show mask 1 = 127 from rfl, mask7 hw] at h
  rw [show hasD 1 = true from rfl, show has1 1 = false from rfl, show has2 1 = false from rfl]
  rw [fld7 hw]
  simp only [fld0]
  have hex := ex_1 hw
  have hv := num_1 hw
  have g0 : 0 ≤ w % 128 ∧ w % 128 < 128 := by clear hB h hex hv; omega
  have g1 : 0 ≤ w / 128 % 32 ∧ w / 128 % 32 < 32 := by clear hB h hex hv; omega
  have g2 : 0 ≤ w / 4096 % 256 ∧ w / 4096 % 256 < 256 := by clear hB h hex hv; omega
  have g3 : 0 ≤ w / 1048576 % 2 ∧ w / 1048576 % 2 < 2 := by clear hB h hex hv; omega
  have g4 : 0 ≤ w / 2097152 % 1024 ∧ w / 2097152 % 1024 < 1024 := by clear hB h hex hv; omega
  have g5 : 0 ≤ w / 2147483648 % 2 ∧ w / 2147483648 % 2 < 2 := by clear hB h hex hv; omega
  have hN := numI_1 (w := w) (by rw [hv]; clear hB h hex hv; omega)
  rw [hv] at hN
  clear hv
  generalize w % 128 = v_op at *
  generalize w / 128 % 32 = v_a at *
  generalize w / 4096 % 256 = v_x2 at *
  generalize w / 1048576 % 2 = v_x1 at *
  generalize w / 2097152 % 1024 = v_x0 at *
  generalize w / 2147483648 % 2 = v_x3 at *
  generalize numI 1 w = n at *
  have hr : -1048576 ≤ n ∧ n ≤ 1048575 ∧ n % 2 = 0 := by clear hB h hex; rw [hN]; split <;> omega
  obtain ⟨rest, hrest, hm⟩ : ∃ rest, 0 ≤ rest ∧ n % 4294967296 = v_x0 * 2 + v_x1 * 2048 + v_x2 * 4096 + v_x3 * 1048576 + 2097152 * rest := by
    clear hB h hex hr
    split at hN
    · exact ⟨0, by omega, by omega⟩
    · exact ⟨2047, by omega, by omega⟩
  have hp := nf_1 g4 g3 g2 g5 hrest hm
  obtain ⟨p0, p1, p2, p3⟩ := hp
  refine ⟨(ok_1 _ _ _ _).2 (by clear hB h hex hN; omega), ?_⟩
  rw [enc_1 hB g1, p0, p1, p2, p3]
  clear hB hN hm hr p0 p1 p2 p3
  all_goals omega
theorem numI_2 {w : Int} (hv : 0 ≤ numV 2 w ∧ numV 2 w < 4096) : numI 2 w = if numV 2 w / 2048 = 0 then numV 2 w else numV 2 w - 4096 := by
  have e : (numV 2 w).fdiv (2 ^ shN .i64 (shB 2 - 1)) = numV 2 w / 2048 := by
    rw [show (2 : Int) ^ shN .i64 (shB 2 - 1) = 2048 from rfl, Int.fdiv_eq_ediv_of_nonneg _ (by omega)]
  unfold numI
  rw [e, show shS 2 = true from rfl, show (2 : Int) ^ (shB 2).toNat = 4096 from rfl, wrap_i64]
  by_cases h : numV 2 w / 2048 = 0
  · rw [if_neg (fun q => q.2 h), if_pos h]
  · rw [if_pos ⟨rfl, h⟩, if_neg h]; omega
theorem ok_2 (a b c n : Int) : okF 2 a b c n = true ↔ (-2048 ≤ n ∧ n ≤ 2047) ∧ (0 ≤ a ∧ a < 32) ∧ (0 ≤ b ∧ b < 32) ∧ c = 0 := by
  simp only [okF, fitsF, regF, hasD, has1, has2, least, most, shE, Bool.and_eq_true, Bool.or_eq_true, decide_eq_true_eq, Bool.not_true, Bool.not_false, true_or, false_or, and_true, tmod2, Bool.false_eq_true]
  all_goals omega
theorem cut_2 {op a f3 b x0 w : Int} (hop : 0 ≤ op ∧ op < 128) (ha : 0 ≤ a ∧ a < 32) (hf3 : 0 ≤ f3 ∧ f3 < 8) (hb : 0 ≤ b ∧ b < 32) (hx0 : 0 ≤ x0 ∧ x0 < 4096) (e : w = op + a * 128 + f3 * 4096 + b * 32768 + x0 * 1048576) : (0 ≤ w ∧ w < 4294967296) ∧ w % 128 = op ∧ w / 128 % 32 = a ∧ w / 4096 % 8 = f3 ∧ w / 32768 % 32 = b ∧ w / 1048576 % 4096 = x0 := by
  refine ⟨by omega, by omega, by omega, by omega, by omega, by omega⟩
theorem ex_2 {w : Int} (hw : 0 ≤ w ∧ w < 4294967296) : w = w % 128 + w / 128 % 32 * 128 + w / 4096 % 8 * 4096 + w / 32768 % 32 * 32768 + w / 1048576 % 4096 * 1048576 := by
  have s0 : w = w % 128 + 128 * (w / 128) := by omega
  have s1 : w / 128 = w / 128 % 32 + 32 * (w / 4096) := by omega
  have s2 : w / 4096 = w / 4096 % 8 + 8 * (w / 32768) := by omega
  have s3 : w / 32768 = w / 32768 % 32 + 32 * (w / 1048576) := by omega
  have s4 : w / 1048576 = w / 1048576 % 4096 + 4096 * (0) := by omega
  generalize w % 128 = v0 at *
  generalize w / 128 % 32 = v1 at *
  generalize w / 4096 % 8 = v2 at *
  generalize w / 32768 % 32 = v3 at *
  generalize w / 1048576 % 4096 = v4 at *
  generalize w / 1048576 = W4 at *
  generalize w / 32768 = W3 at *
  generalize w / 4096 = W2 at *
  generalize w / 128 = W1 at *
  omega
theorem nn_2 {n : Int} : n % 4294967296 / 1 % 4096 * 1 = n % 4096 := by
  have e0 : n % 4096 = n % 4294967296 % 4096 := by omega
  rw [e0]
  generalize n % 4294967296 = m at *
  have s0 : m / 1 = m / 1 % 4096 + 4096 * (m / 4096) := by omega
  have z : m % 4096 = m - 4096 * (m / 4096) := by omega
  have s : m / 1 = m := by omega
  rw [z]
  clear z e0
  generalize m / 1 % 4096 = v0 at *
  generalize m / 4096 = M0 at *
  generalize m / 1 = M at *
  omega
theorem nf_2 {x0 m rest : Int} (hx0 : 0 ≤ x0 ∧ x0 < 4096) (hr : 0 ≤ rest) (e : m = x0 * 1 + 4096 * rest) : m / 1 % 4096 = x0 := by
  omega
theorem d1_2 {B a b c n w : Int} (hB : 0 ≤ B ∧ B % 128 + B / 4096 % 8 * 4096 = B) (h : okF 2 a b c n = true) (e : encW 2 B a b c n = w) : (0 ≤ w ∧ w < 4294967296) ∧ bitsI .and .u32 w (mask 2) = B ∧ fldI (hasD 2) 7 w = a ∧ fldI (has1 2) 15 w = b ∧ fldI (has2 2) 20 w = c ∧ numI 2 w = n := by
  obtain ⟨hn, ha, hb, hc⟩ := (ok_2 a b c n).1 h
  subst hc
  rw [enc_2 hB ha hb] at e
  have hnn := nn_2 (n := n)
  have g0 : 0 ≤ n % 4294967296 / 1 % 4096 ∧ n % 4294967296 / 1 % 4096 < 4096 := by clear hB e hnn; omega
  generalize n % 4294967296 / 1 % 4096 = x0 at *
  obtain ⟨op, hop⟩ : ∃ z, z = B % 128 := ⟨_, rfl⟩
  obtain ⟨f3, hf3⟩ : ∃ z, z = B / 4096 % 8 := ⟨_, rfl⟩
  have bo : 0 ≤ op ∧ op < 128 := by clear e hnn; omega
  have b3 : 0 ≤ f3 ∧ f3 < 8 := by clear e hnn; omega
  rw [← hop, ← hf3] at hB
  clear hop hf3
  have eB : B = op + f3 * 4096 := by omega
  clear hB
  subst eB
  obtain ⟨hw, t0, t1, t2, t3, t4⟩ := cut_2 bo ha b3 hb g0 (w := w) (by clear hnn; omega)
  rw [show mask 2 = 28799 from rfl, mask28 hw, show hasD 2 = true from rfl, show has1 2 = true from rfl, show has2 2 = false from rfl]
  rw [fld7 hw, fld15 hw]
  simp only [fld0, true_and]
  have hv := num_2 hw
  rw [t4, hnn] at hv
  have hN : numI 2 w = n := by
    rw [numI_2 (by rw [hv]; clear hv e hnn; omega), hv]; clear hv e hnn t0 t1 t2 t3 t4; split <;> omega
  exact ⟨hw, by rw [t0, t2], t1, t3, hN⟩
theorem d2_2 {B w : Int} (hB : 0 ≤ B ∧ B % 128 + B / 4096 % 8 * 4096 = B) (hw : 0 ≤ w ∧ w < 4294967296) (h : bitsI .and .u32 w (mask 2) = B) : okF 2 (fldI (hasD 2) 7 w) (fldI (has1 2) 15 w) (fldI (has2 2) 20 w) (numI 2 w) = true ∧ encW 2 B (fldI (hasD 2) 7 w) (fldI (has1 2) 15 w) (fldI (has2 2) 20 w) (numI 2 w) = w := by
  rw [show mask 2 = 28799 from rfl, mask28 hw] at h
  rw [show hasD 2 = true from rfl, show has1 2 = true from rfl, show has2 2 = false from rfl]
  rw [fld7 hw, fld15 hw]
  simp only [fld0]
  have hex := ex_2 hw
  have hv := num_2 hw
  have g0 : 0 ≤ w % 128 ∧ w % 128 < 128 := by clear hB h hex hv; omega
  have g1 : 0 ≤ w / 128 % 32 ∧ w / 128 % 32 < 32 := by clear hB h hex hv; omega
  have g2 : 0 ≤ w / 4096 % 8 ∧ w / 4096 % 8 < 8 := by clear hB h hex hv; omega
  have g3 : 0 ≤ w / 32768 % 32 ∧ w / 32768 % 32 < 32 := by clear hB h hex hv; omega
  have g4 : 0 ≤ w / 1048576 % 4096 ∧ w / 1048576 % 4096 < 4096 := by clear hB h hex hv; omega
  have hN := numI_2 (w := w) (by rw [hv]; clear hB h hex hv; omega)
  rw [hv] at hN
  clear hv
  generalize w % 128 = v_op at *
  generalize w / 128 % 32 = v_a at *
  generalize w / 4096 % 8 = v_f3 at *
  generalize w / 32768 % 32 = v_b at *
  generalize w / 1048576 % 4096 = v_x0 at *
  generalize numI 2 w = n at *
  have hr : -2048 ≤ n ∧ n ≤ 2047 := by clear hB h hex; rw [hN]; split <;> omega
  obtain ⟨rest, hrest, hm⟩ : ∃ rest, 0 ≤ rest ∧ n % 4294967296 = v_x0 * 1 + 4096 * rest := by
    clear hB h hex hr
    split at hN
    · exact ⟨0, by omega, by omega⟩
    · exact ⟨1048575, by omega, by omega⟩
  have hp := nf_2 g4 hrest hm
  have p0 := hp
  refine ⟨(ok_2 _ _ _ _).2 (by clear hB h hex hN; omega), ?_⟩
  rw [enc_2 hB g1 g3, p0]
  clear hB hN hm hr p0
  all_goals omega
theorem numI_3 {w : Int} : numI 3 w = numV 3 w := by unfold numI; rw [if_neg (by simp [shS])]
theorem ok_3 (a b c n : Int) : okF 3 a b c n = true ↔ (0 ≤ n ∧ n ≤ 31) ∧ (0 ≤ a ∧ a < 32) ∧ (0 ≤ b ∧ b < 32) ∧ c = 0 := by
  simp only [okF, fitsF, regF, hasD, has1, has2, least, most, shE, Bool.and_eq_true, Bool.or_eq_true, decide_eq_true_eq, Bool.not_true, Bool.not_false, true_or, false_or, and_true, tmod2, Bool.false_eq_true]
  all_goals omega
theorem cut_3 {op a f3 b x0 f7 w : Int} (hop : 0 ≤ op ∧ op < 128) (ha : 0 ≤ a ∧ a < 32) (hf3 : 0 ≤ f3 ∧ f3 < 8) (hb : 0 ≤ b ∧ b < 32) (hx0 : 0 ≤ x0 ∧ x0 < 32) (hf7 : 0 ≤ f7 ∧ f7 < 128) (e : w = op + a * 128 + f3 * 4096 + b * 32768 + x0 * 1048576 + f7 * 33554432) : (0 ≤ w ∧ w < 4294967296) ∧ w % 128 = op ∧ w / 128 % 32 = a ∧ w / 4096 % 8 = f3 ∧ w / 32768 % 32 = b ∧ w / 1048576 % 32 = x0 ∧ w / 33554432 % 128 = f7 := by
  refine ⟨by omega, by omega, by omega, by omega, by omega, by omega, by omega⟩
theorem ex_3 {w : Int} (hw : 0 ≤ w ∧ w < 4294967296) : w = w % 128 + w / 128 % 32 * 128 + w / 4096 % 8 * 4096 + w / 32768 % 32 * 32768 + w / 1048576 % 32 * 1048576 + w / 33554432 % 128 * 33554432 := by
  have s0 : w = w % 128 + 128 * (w / 128) := by omega
  have s1 : w / 128 = w / 128 % 32 + 32 * (w / 4096) := by omega
  have s2 : w / 4096 = w / 4096 % 8 + 8 * (w / 32768) := by omega
  have s3 : w / 32768 = w / 32768 % 32 + 32 * (w / 1048576) := by omega
  have s4 : w / 1048576 = w / 1048576 % 32 + 32 * (w / 33554432) := by omega
  have s5 : w / 33554432 = w / 33554432 % 128 + 128 * (0) := by omega
  generalize w % 128 = v0 at *
  generalize w / 128 % 32 = v1 at *
  generalize w / 4096 % 8 = v2 at *
  generalize w / 32768 % 32 = v3 at *
  generalize w / 1048576 % 32 = v4 at *
  generalize w / 33554432 % 128 = v5 at *
  generalize w / 33554432 = W5 at *
  generalize w / 1048576 = W4 at *
  generalize w / 32768 = W3 at *
  generalize w / 4096 = W2 at *
  generalize w / 128 = W1 at *
  omega
theorem nn_3 {n : Int} : n % 4294967296 / 1 % 32 * 1 = n % 32 := by
  have e0 : n % 32 = n % 4294967296 % 32 := by omega
  rw [e0]
  generalize n % 4294967296 = m at *
  have s0 : m / 1 = m / 1 % 32 + 32 * (m / 32) := by omega
  have z : m % 32 = m - 32 * (m / 32) := by omega
  have s : m / 1 = m := by omega
  rw [z]
  clear z e0
  generalize m / 1 % 32 = v0 at *
  generalize m / 32 = M0 at *
  generalize m / 1 = M at *
  omega
theorem nf_3 {x0 m rest : Int} (hx0 : 0 ≤ x0 ∧ x0 < 32) (hr : 0 ≤ rest) (e : m = x0 * 1 + 32 * rest) : m / 1 % 32 = x0 := by
  omega
theorem d1_3 {B a b c n w : Int} (hB : 0 ≤ B ∧ B < 4294967296 ∧ B % 128 + B / 4096 % 8 * 4096 + B / 33554432 * 33554432 = B) (h : okF 3 a b c n = true) (e : encW 3 B a b c n = w) : (0 ≤ w ∧ w < 4294967296) ∧ bitsI .and .u32 w (mask 3) = B ∧ fldI (hasD 3) 7 w = a ∧ fldI (has1 3) 15 w = b ∧ fldI (has2 3) 20 w = c ∧ numI 3 w = n := by
  obtain ⟨hn, ha, hb, hc⟩ := (ok_3 a b c n).1 h
  subst hc
  rw [enc_3 hB ha hb (by omega)] at e
  have hnn := nn_3 (n := n)
  have g0 : 0 ≤ n % 4294967296 / 1 % 32 ∧ n % 4294967296 / 1 % 32 < 32 := by clear hB e hnn; omega
  generalize n % 4294967296 / 1 % 32 = x0 at *
  obtain ⟨op, hop⟩ : ∃ z, z = B % 128 := ⟨_, rfl⟩
  obtain ⟨f3, hf3⟩ : ∃ z, z = B / 4096 % 8 := ⟨_, rfl⟩
  obtain ⟨f7, hf7⟩ : ∃ z, z = B / 33554432 := ⟨_, rfl⟩
  have bo : 0 ≤ op ∧ op < 128 := by clear e hnn; omega
  have b3 : 0 ≤ f3 ∧ f3 < 8 := by clear e hnn; omega
  have b7 : 0 ≤ f7 ∧ f7 < 128 := by clear e hnn; omega
  rw [← hop, ← hf3, ← hf7] at hB
  clear hop hf3 hf7
  have eB : B = op + f3 * 4096 + f7 * 33554432 := by omega
  clear hB
  subst eB
  obtain ⟨hw, t0, t1, t2, t3, t4, t5⟩ := cut_3 bo ha b3 hb g0 b7 (w := w) (by clear hnn; omega)
  rw [show mask 3 = 4261441663 from rfl, maskR hw, show hasD 3 = true from rfl, show has1 3 = true from rfl, show has2 3 = false from rfl]
  rw [fld7 hw, fld15 hw]
  simp only [fld0, true_and]
  have hv := num_3 hw
  rw [t4, hnn] at hv
  have hN : numI 3 w = n := by rw [numI_3, hv]; clear hv e hnn t0 t1 t2 t3 t4 t5; omega
  have t7 : w / 33554432 = f7 := by clear hv hN hnn e t0 t1 t2 t3 t4; omega
  exact ⟨hw, by rw [t0, t2, t7], t1, t3, hN⟩
theorem d2_3 {B w : Int} (hB : 0 ≤ B ∧ B < 4294967296 ∧ B % 128 + B / 4096 % 8 * 4096 + B / 33554432 * 33554432 = B) (hw : 0 ≤ w ∧ w < 4294967296) (h : bitsI .and .u32 w (mask 3) = B) : okF 3 (fldI (hasD 3) 7 w) (fldI (has1 3) 15 w) (fldI (has2 3) 20 w) (numI 3 w) = true ∧ encW 3 B (fldI (hasD 3) 7 w) (fldI (has1 3) 15 w) (fldI (has2 3) 20 w) (numI 3 w) = w := by
  rw [show mask 3 = 4261441663 from rfl, maskR hw] at h
  rw [show hasD 3 = true from rfl, show has1 3 = true from rfl, show has2 3 = false from rfl]
  rw [fld7 hw, fld15 hw]
  simp only [fld0]
  have hex := ex_3 hw
  have hv := num_3 hw
  have g0 : 0 ≤ w % 128 ∧ w % 128 < 128 := by clear hB h hex hv; omega
  have g1 : 0 ≤ w / 128 % 32 ∧ w / 128 % 32 < 32 := by clear hB h hex hv; omega
  have g2 : 0 ≤ w / 4096 % 8 ∧ w / 4096 % 8 < 8 := by clear hB h hex hv; omega
  have g3 : 0 ≤ w / 32768 % 32 ∧ w / 32768 % 32 < 32 := by clear hB h hex hv; omega
  have g4 : 0 ≤ w / 1048576 % 32 ∧ w / 1048576 % 32 < 32 := by clear hB h hex hv; omega
  have g5 : 0 ≤ w / 33554432 % 128 ∧ w / 33554432 % 128 < 128 := by clear hB h hex hv; omega
  have e7 : w / 33554432 % 128 = w / 33554432 := by clear hB h hex hv; omega
  have hN := numI_3 (w := w)
  rw [hv] at hN
  clear hv
  generalize w % 128 = v_op at *
  generalize w / 128 % 32 = v_a at *
  generalize w / 4096 % 8 = v_f3 at *
  generalize w / 32768 % 32 = v_b at *
  generalize w / 1048576 % 32 = v_x0 at *
  generalize w / 33554432 % 128 = v_f7 at *
  generalize numI 3 w = n at *
  have hr : 0 ≤ n ∧ n ≤ 31 := by clear hB h hex; omega
  have hm : n % 4294967296 = v_x0 * 1 + 32 * 0 := by clear hB h hex; omega
  have hrest : (0 : Int) ≤ 0 := by omega
  have hp := nf_3 g4 hrest hm
  have p0 := hp
  refine ⟨(ok_3 _ _ _ _).2 (by clear hB h hex hN; omega), ?_⟩
  rw [enc_3 hB g1 g3 (by clear hB h hex; omega), p0]
  clear hB hN hm hr p0
  all_goals omega
theorem numI_4 {w : Int} (hv : 0 ≤ numV 4 w ∧ numV 4 w < 8192) : numI 4 w = if numV 4 w / 4096 = 0 then numV 4 w else numV 4 w - 8192 := by
  have e : (numV 4 w).fdiv (2 ^ shN .i64 (shB 4 - 1)) = numV 4 w / 4096 := by
    rw [show (2 : Int) ^ shN .i64 (shB 4 - 1) = 4096 from rfl, Int.fdiv_eq_ediv_of_nonneg _ (by omega)]
  unfold numI
  rw [e, show shS 4 = true from rfl, show (2 : Int) ^ (shB 4).toNat = 8192 from rfl, wrap_i64]
  by_cases h : numV 4 w / 4096 = 0
  · rw [if_neg (fun q => q.2 h), if_pos h]
  · rw [if_pos ⟨rfl, h⟩, if_neg h]; omega
theorem ok_4 (a b c n : Int) : okF 4 a b c n = true ↔ (-4096 ≤ n ∧ n ≤ 4095 ∧ n % 2 = 0) ∧ a = 0 ∧ (0 ≤ b ∧ b < 32) ∧ (0 ≤ c ∧ c < 32) := by
  simp only [okF, fitsF, regF, hasD, has1, has2, least, most, shE, Bool.and_eq_true, Bool.or_eq_true, decide_eq_true_eq, Bool.not_true, Bool.not_false, true_or, false_or, and_true, tmod2, Bool.false_eq_true]
  all_goals omega
theorem cut_4 {op x2 x0 f3 b c x1 x3 w : Int} (hop : 0 ≤ op ∧ op < 128) (hx2 : 0 ≤ x2 ∧ x2 < 2) (hx0 : 0 ≤ x0 ∧ x0 < 16) (hf3 : 0 ≤ f3 ∧ f3 < 8) (hb : 0 ≤ b ∧ b < 32) (hc : 0 ≤ c ∧ c < 32) (hx1 : 0 ≤ x1 ∧ x1 < 64) (hx3 : 0 ≤ x3 ∧ x3 < 2) (e : w = op + x2 * 128 + x0 * 256 + f3 * 4096 + b * 32768 + c * 1048576 + x1 * 33554432 + x3 * 2147483648) : (0 ≤ w ∧ w < 4294967296) ∧ w % 128 = op ∧ w / 128 % 2 = x2 ∧ w / 256 % 16 = x0 ∧ w / 4096 % 8 = f3 ∧ w / 32768 % 32 = b ∧ w / 1048576 % 32 = c ∧ w / 33554432 % 64 = x1 ∧ w / 2147483648 % 2 = x3 := by
  refine ⟨by omega, by omega, by omega, by omega, by omega, by omega, by omega, by omega, by omega⟩
theorem ex_4 {w : Int} (hw : 0 ≤ w ∧ w < 4294967296) : w = w % 128 + w / 128 % 2 * 128 + w / 256 % 16 * 256 + w / 4096 % 8 * 4096 + w / 32768 % 32 * 32768 + w / 1048576 % 32 * 1048576 + w / 33554432 % 64 * 33554432 + w / 2147483648 % 2 * 2147483648 := by
  have s0 : w = w % 128 + 128 * (w / 128) := by omega
  have s1 : w / 128 = w / 128 % 2 + 2 * (w / 256) := by omega
  have s2 : w / 256 = w / 256 % 16 + 16 * (w / 4096) := by omega
  have s3 : w / 4096 = w / 4096 % 8 + 8 * (w / 32768) := by omega
  have s4 : w / 32768 = w / 32768 % 32 + 32 * (w / 1048576) := by omega
  have s5 : w / 1048576 = w / 1048576 % 32 + 32 * (w / 33554432) := by omega
  have s6 : w / 33554432 = w / 33554432 % 64 + 64 * (w / 2147483648) := by omega
  have s7 : w / 2147483648 = w / 2147483648 % 2 + 2 * (0) := by omega
  generalize w % 128 = v0 at *
  generalize w / 128 % 2 = v1 at *
  generalize w / 256 % 16 = v2 at *
  generalize w / 4096 % 8 = v3 at *
  generalize w / 32768 % 32 = v4 at *
  generalize w / 1048576 % 32 = v5 at *
  generalize w / 33554432 % 64 = v6 at *
  generalize w / 2147483648 % 2 = v7 at *
  generalize w / 2147483648 = W7 at *
  generalize w / 33554432 = W6 at *
  generalize w / 1048576 = W5 at *
  generalize w / 32768 = W4 at *
  generalize w / 4096 = W3 at *
  generalize w / 256 = W2 at *
  generalize w / 128 = W1 at *
  omega
theorem nn_4 {n : Int} (h : n % 2 = 0) : n % 4294967296 / 2 % 16 * 2 + n % 4294967296 / 32 % 64 * 32 + n % 4294967296 / 2048 % 2 * 2048 + n % 4294967296 / 4096 % 2 * 4096 = n % 8192 := by
  have e0 : n % 8192 = n % 4294967296 % 8192 := by omega
  rw [e0]
  have e1 : n % 4294967296 % 2 = 0 := by omega
  clear h
  generalize n % 4294967296 = m at *
  have s : m = 2 * (m / 2) := by omega
  have s0 : m / 2 = m / 2 % 16 + 16 * (m / 32) := by omega
  have s1 : m / 32 = m / 32 % 64 + 64 * (m / 2048) := by omega
  have s2 : m / 2048 = m / 2048 % 2 + 2 * (m / 4096) := by omega
  have s3 : m / 4096 = m / 4096 % 2 + 2 * (m / 8192) := by omega
  have z : m % 8192 = m - 8192 * (m / 8192) := by omega
  rw [z]
  clear z e0 e1
  generalize m / 2 % 16 = v0 at *
  generalize m / 32 % 64 = v1 at *
  generalize m / 2048 % 2 = v2 at *
  generalize m / 4096 % 2 = v3 at *
  generalize m / 8192 = M3 at *
  generalize m / 4096 = M2 at *
  generalize m / 2048 = M1 at *
  generalize m / 32 = M0 at *
  generalize m / 2 = M at *
  omega
theorem nf_4 {x0 x1 x2 x3 m rest : Int} (hx0 : 0 ≤ x0 ∧ x0 < 16) (hx1 : 0 ≤ x1 ∧ x1 < 64) (hx2 : 0 ≤ x2 ∧ x2 < 2) (hx3 : 0 ≤ x3 ∧ x3 < 2) (hr : 0 ≤ rest) (e : m = x0 * 2 + x1 * 32 + x2 * 2048 + x3 * 4096 + 8192 * rest) : m / 2 % 16 = x0 ∧ m / 32 % 64 = x1 ∧ m / 2048 % 2 = x2 ∧ m / 4096 % 2 = x3 := by
  refine ⟨by omega, by omega, by omega, by omega⟩
theorem d1_4 {B a b c n w : Int} (hB : 0 ≤ B ∧ B % 128 + B / 4096 % 8 * 4096 = B) (h : okF 4 a b c n = true) (e : encW 4 B a b c n = w) : (0 ≤ w ∧ w < 4294967296) ∧ bitsI .and .u32 w (mask 4) = B ∧ fldI (hasD 4) 7 w = a ∧ fldI (has1 4) 15 w = b ∧ fldI (has2 4) 20 w = c ∧ numI 4 w = n := by
  obtain ⟨hn, ha, hb, hc⟩ := (ok_4 a b c n).1 h
  subst ha
  rw [enc_4 hB hb hc] at e
  have hnn := nn_4 (n := n) (by omega)
  have g0 : 0 ≤ n % 4294967296 / 2 % 16 ∧ n % 4294967296 / 2 % 16 < 16 := by clear hB e hnn; omega
  have g1 : 0 ≤ n % 4294967296 / 32 % 64 ∧ n % 4294967296 / 32 % 64 < 64 := by clear hB e hnn; omega
  have g2 : 0 ≤ n % 4294967296 / 2048 % 2 ∧ n % 4294967296 / 2048 % 2 < 2 := by clear hB e hnn; omega
  have g3 : 0 ≤ n % 4294967296 / 4096 % 2 ∧ n % 4294967296 / 4096 % 2 < 2 := by clear hB e hnn; omega
  generalize n % 4294967296 / 2 % 16 = x0 at *
  generalize n % 4294967296 / 32 % 64 = x1 at *
  generalize n % 4294967296 / 2048 % 2 = x2 at *
  generalize n % 4294967296 / 4096 % 2 = x3 at *
  obtain ⟨op, hop⟩ : ∃ z, z = B % 128 := ⟨_, rfl⟩
  obtain ⟨f3, hf3⟩ : ∃ z, z = B / 4096 % 8 := ⟨_, rfl⟩
  have bo : 0 ≤ op ∧ op < 128 := by clear e hnn; omega
  have b3 : 0 ≤ f3 ∧ f3 < 8 := by clear e hnn; omega
  rw [← hop, ← hf3] at hB
  clear hop hf3
  have eB : B = op + f3 * 4096 := by omega
  clear hB
  subst eB
  obtain ⟨hw, t0, t1, t2, t3, t4, t5, t6, t7⟩ := cut_4 bo g2 g0 b3 hb hc g1 g3 (w := w) (by clear hnn; omega)
  rw [show mask 4 = 28799 from rfl, mask28 hw, show hasD 4 = false from rfl, show has1 4 = true from rfl, show has2 4 = true from rfl]
  rw [fld15 hw, fld20 hw]
  simp only [fld0, true_and]
  have hv := num_4 hw
  rw [t2, t6, t1, t7, hnn] at hv
  have hN : numI 4 w = n := by
    rw [numI_4 (by rw [hv]; clear hv e hnn; omega), hv]; clear hv e hnn t0 t1 t2 t3 t4 t5 t6 t7; split <;> omega
  exact ⟨hw, by rw [t0, t3], t4, t5, hN⟩
theorem d2_4 {B w : Int} (hB : 0 ≤ B ∧ B % 128 + B / 4096 % 8 * 4096 = B) (hw : 0 ≤ w ∧ w < 4294967296) (h : bitsI .and .u32 w (mask 4) = B) : okF 4 (fldI (hasD 4) 7 w) (fldI (has1 4) 15 w) (fldI (has2 4) 20 w) (numI 4 w) = true ∧ encW 4 B (fldI (hasD 4) 7 w) (fldI (has1 4) 15 w) (fldI (has2 4) 20 w) (numI 4 w) = w := by
  rw [show mask 4 = 28799 from rfl, mask28 hw] at h
  rw [show hasD 4 = false from rfl, show has1 4 = true from rfl, show has2 4 = true from rfl]
  rw [fld15 hw, fld20 hw]
  simp only [fld0]
  have hex := ex_4 hw
  have hv := num_4 hw
  have g0 : 0 ≤ w % 128 ∧ w % 128 < 128 := by clear hB h hex hv; omega
  have g1 : 0 ≤ w / 128 % 2 ∧ w / 128 % 2 < 2 := by clear hB h hex hv; omega
  have g2 : 0 ≤ w / 256 % 16 ∧ w / 256 % 16 < 16 := by clear hB h hex hv; omega
  have g3 : 0 ≤ w / 4096 % 8 ∧ w / 4096 % 8 < 8 := by clear hB h hex hv; omega
  have g4 : 0 ≤ w / 32768 % 32 ∧ w / 32768 % 32 < 32 := by clear hB h hex hv; omega
  have g5 : 0 ≤ w / 1048576 % 32 ∧ w / 1048576 % 32 < 32 := by clear hB h hex hv; omega
  have g6 : 0 ≤ w / 33554432 % 64 ∧ w / 33554432 % 64 < 64 := by clear hB h hex hv; omega
  have g7 : 0 ≤ w / 2147483648 % 2 ∧ w / 2147483648 % 2 < 2 := by clear hB h hex hv; omega
  have hN := numI_4 (w := w) (by rw [hv]; clear hB h hex hv; omega)
  rw [hv] at hN
  clear hv
  generalize w % 128 = v_op at *
  generalize w / 128 % 2 = v_x2 at *
  generalize w / 256 % 16 = v_x0 at *
  generalize w / 4096 % 8 = v_f3 at *
  generalize w / 32768 % 32 = v_b at *
  generalize w / 1048576 % 32 = v_c at *
  generalize w / 33554432 % 64 = v_x1 at *
  generalize w / 2147483648 % 2 = v_x3 at *
  generalize numI 4 w = n at *
  have hr : -4096 ≤ n ∧ n ≤ 4095 ∧ n % 2 = 0 := by clear hB h hex; rw [hN]; split <;> omega
  obtain ⟨rest, hrest, hm⟩ : ∃ rest, 0 ≤ rest ∧ n % 4294967296 = v_x0 * 2 + v_x1 * 32 + v_x2 * 2048 + v_x3 * 4096 + 8192 * rest := by
    clear hB h hex hr
    split at hN
    · exact ⟨0, by omega, by omega⟩
    · exact ⟨524287, by omega, by omega⟩
  have hp := nf_4 g2 g6 g1 g7 hrest hm
  obtain ⟨p0, p1, p2, p3⟩ := hp
  refine ⟨(ok_4 _ _ _ _).2 (by clear hB h hex hN; omega), ?_⟩
  rw [enc_4 hB g4 g5, p0, p1, p2, p3]
  clear hB hN hm hr p0 p1 p2 p3
  all_goals omega
theorem numI_5 {w : Int} (hv : 0 ≤ numV 5 w ∧ numV 5 w < 4096) : numI 5 w = if numV 5 w / 2048 = 0 then numV 5 w else numV 5 w - 4096 := by
  have e : (numV 5 w).fdiv (2 ^ shN .i64 (shB 5 - 1)) = numV 5 w / 2048 := by
    rw [show (2 : Int) ^ shN .i64 (shB 5 - 1) = 2048 from rfl, Int.fdiv_eq_ediv_of_nonneg _ (by omega)]
  unfold numI
  rw [e, show shS 5 = true from rfl, show (2 : Int) ^ (shB 5).toNat = 4096 from rfl, wrap_i64]
  by_cases h : numV 5 w / 2048 = 0
  · rw [if_neg (fun q => q.2 h), if_pos h]
  · rw [if_pos ⟨rfl, h⟩, if_neg h]; omega
theorem ok_5 (a b c n : Int) : okF 5 a b c n = true ↔ (-2048 ≤ n ∧ n ≤ 2047) ∧ a = 0 ∧ (0 ≤ b ∧ b < 32) ∧ (0 ≤ c ∧ c < 32) := by
  simp only [okF, fitsF, regF, hasD, has1, has2, least, most, shE, Bool.and_eq_true, Bool.or_eq_true, decide_eq_true_eq, Bool.not_true, Bool.not_false, true_or, false_or, and_true, tmod2, Bool.false_eq_true]
  all_goals omega
theorem cut_5 {op x0 f3 b c x1 w : Int} (hop : 0 ≤ op ∧ op < 128) (hx0 : 0 ≤ x0 ∧ x0 < 32) (hf3 : 0 ≤ f3 ∧ f3 < 8) (hb : 0 ≤ b ∧ b < 32) (hc : 0 ≤ c ∧ c < 32) (hx1 : 0 ≤ x1 ∧ x1 < 128) (e : w = op + x0 * 128 + f3 * 4096 + b * 32768 + c * 1048576 + x1 * 33554432) : (0 ≤ w ∧ w < 4294967296) ∧ w % 128 = op ∧ w / 128 % 32 = x0 ∧ w / 4096 % 8 = f3 ∧ w / 32768 % 32 = b ∧ w / 1048576 % 32 = c ∧ w / 33554432 % 128 = x1 := by
  refine ⟨by omega, by omega, by omega, by omega, by omega, by omega, by omega⟩
theorem ex_5 {w : Int} (hw : 0 ≤ w ∧ w < 4294967296) : w = w % 128 + w / 128 % 32 * 128 + w / 4096 % 8 * 4096 + w / 32768 % 32 * 32768 + w / 1048576 % 32 * 1048576 + w / 33554432 % 128 * 33554432 := by
  have s0 : w = w % 128 + 128 * (w / 128) := by omega
  have s1 : w / 128 = w / 128 % 32 + 32 * (w / 4096) := by omega
  have s2 : w / 4096 = w / 4096 % 8 + 8 * (w / 32768) := by omega
  have s3 : w / 32768 = w / 32768 % 32 + 32 * (w / 1048576) := by omega
  have s4 : w / 1048576 = w / 1048576 % 32 + 32 * (w / 33554432) := by omega
  have s5 : w / 33554432 = w / 33554432 % 128 + 128 * (0) := by omega
  generalize w % 128 = v0 at *
  generalize w / 128 % 32 = v1 at *
  generalize w / 4096 % 8 = v2 at *
  generalize w / 32768 % 32 = v3 at *
  generalize w / 1048576 % 32 = v4 at *
  generalize w / 33554432 % 128 = v5 at *
  generalize w / 33554432 = W5 at *
  generalize w / 1048576 = W4 at *
  generalize w / 32768 = W3 at *
  generalize w / 4096 = W2 at *
  generalize w / 128 = W1 at *
  omega
theorem nn_5 {n : Int} : n % 4294967296 / 1 % 32 * 1 + n % 4294967296 / 32 % 128 * 32 = n % 4096 := by
  have e0 : n % 4096 = n % 4294967296 % 4096 := by omega
  rw [e0]
  generalize n % 4294967296 = m at *
  have s0 : m / 1 = m / 1 % 32 + 32 * (m / 32) := by omega
  have s1 : m / 32 = m / 32 % 128 + 128 * (m / 4096) := by omega
  have z : m % 4096 = m - 4096 * (m / 4096) := by omega
  have s : m / 1 = m := by omega
  rw [z]
  clear z e0
  generalize m / 1 % 32 = v0 at *
  generalize m / 32 % 128 = v1 at *
  generalize m / 4096 = M1 at *
  generalize m / 32 = M0 at *
  generalize m / 1 = M at *
  omega
theorem nf_5 {x0 x1 m rest : Int} (hx0 : 0 ≤ x0 ∧ x0 < 32) (hx1 : 0 ≤ x1 ∧ x1 < 128) (hr : 0 ≤ rest) (e : m = x0 * 1 + x1 * 32 + 4096 * rest) : m / 1 % 32 = x0 ∧ m / 32 % 128 = x1 := by
  refine ⟨by omega, by omega⟩
theorem d1_5 {B a b c n w : Int} (hB : 0 ≤ B ∧ B % 128 + B / 4096 % 8 * 4096 = B) (h : okF 5 a b c n = true) (e : encW 5 B a b c n = w) : (0 ≤ w ∧ w < 4294967296) ∧ bitsI .and .u32 w (mask 5) = B ∧ fldI (hasD 5) 7 w = a ∧ fldI (has1 5) 15 w = b ∧ fldI (has2 5) 20 w = c ∧ numI 5 w = n := by
  obtain ⟨hn, ha, hb, hc⟩ := (ok_5 a b c n).1 h
  subst ha
  rw [enc_5 hB hb hc] at e
  have hnn := nn_5 (n := n)
  have g0 : 0 ≤ n % 4294967296 / 1 % 32 ∧ n % 4294967296 / 1 % 32 < 32 := by clear hB e hnn; omega
  have g1 : 0 ≤ n % 4294967296 / 32 % 128 ∧ n % 4294967296 / 32 % 128 < 128 := by clear hB e hnn; omega
  generalize n % 4294967296 / 1 % 32 = x0 at *
  generalize n % 4294967296 / 32 % 128 = x1 at *
  obtain ⟨op, hop⟩ : ∃ z, z = B % 128 := ⟨_, rfl⟩
  obtain ⟨f3, hf3⟩ : ∃ z, z = B / 4096 % 8 := ⟨_, rfl⟩
  have bo : 0 ≤ op ∧ op < 128 := by clear e hnn; omega
  have b3 : 0 ≤ f3 ∧ f3 < 8 := by clear e hnn; omega
  rw [← hop, ← hf3] at hB
  clear hop hf3
  have eB : B = op + f3 * 4096 := by omega
  clear hB
  subst eB
  obtain ⟨hw, t0, t1, t2, t3, t4, t5⟩ := cut_5 bo g0 b3 hb hc g1 (w := w) (by clear hnn; omega)
  rw [show mask 5 = 28799 from rfl, mask28 hw, show hasD 5 = false from rfl, show has1 5 = true from rfl, show has2 5 = true from rfl]
  rw [fld15 hw, fld20 hw]
  simp only [fld0, true_and]
  have hv := num_5 hw
  rw [t1, t5, hnn] at hv
  have hN : numI 5 w = n := by
    rw [numI_5 (by rw [hv]; clear hv e hnn; omega), hv]; clear hv e hnn t0 t1 t2 t3 t4 t5; split <;> omega
  exact ⟨hw, by rw [t0, t2], t3, t4, hN⟩
theorem d2_5 {B w : Int} (hB : 0 ≤ B ∧ B % 128 + B / 4096 % 8 * 4096 = B) (hw : 0 ≤ w ∧ w < 4294967296) (h : bitsI .and .u32 w (mask 5) = B) : okF 5 (fldI (hasD 5) 7 w) (fldI (has1 5) 15 w) (fldI (has2 5) 20 w) (numI 5 w) = true ∧ encW 5 B (fldI (hasD 5) 7 w) (fldI (has1 5) 15 w) (fldI (has2 5) 20 w) (numI 5 w) = w := by
  rw [show mask 5 = 28799 from rfl, mask28 hw] at h
  rw [show hasD 5 = false from rfl, show has1 5 = true from rfl, show has2 5 = true from rfl]
  rw [fld15 hw, fld20 hw]
  simp only [fld0]
  have hex := ex_5 hw
  have hv := num_5 hw
  have g0 : 0 ≤ w % 128 ∧ w % 128 < 128 := by clear hB h hex hv; omega
  have g1 : 0 ≤ w / 128 % 32 ∧ w / 128 % 32 < 32 := by clear hB h hex hv; omega
  have g2 : 0 ≤ w / 4096 % 8 ∧ w / 4096 % 8 < 8 := by clear hB h hex hv; omega
  have g3 : 0 ≤ w / 32768 % 32 ∧ w / 32768 % 32 < 32 := by clear hB h hex hv; omega
  have g4 : 0 ≤ w / 1048576 % 32 ∧ w / 1048576 % 32 < 32 := by clear hB h hex hv; omega
  have g5 : 0 ≤ w / 33554432 % 128 ∧ w / 33554432 % 128 < 128 := by clear hB h hex hv; omega
  have hN := numI_5 (w := w) (by rw [hv]; clear hB h hex hv; omega)
  rw [hv] at hN
  clear hv
  generalize w % 128 = v_op at *
  generalize w / 128 % 32 = v_x0 at *
  generalize w / 4096 % 8 = v_f3 at *
  generalize w / 32768 % 32 = v_b at *
  generalize w / 1048576 % 32 = v_c at *
  generalize w / 33554432 % 128 = v_x1 at *
  generalize numI 5 w = n at *
  have hr : -2048 ≤ n ∧ n ≤ 2047 := by clear hB h hex; rw [hN]; split <;> omega
  obtain ⟨rest, hrest, hm⟩ : ∃ rest, 0 ≤ rest ∧ n % 4294967296 = v_x0 * 1 + v_x1 * 32 + 4096 * rest := by
    clear hB h hex hr
    split at hN
    · exact ⟨0, by omega, by omega⟩
    · exact ⟨1048575, by omega, by omega⟩
  have hp := nf_5 g1 g5 hrest hm
  obtain ⟨p0, p1⟩ := hp
  refine ⟨(ok_5 _ _ _ _).2 (by clear hB h hex hN; omega), ?_⟩
  rw [enc_5 hB g3 g4, p0, p1]
  clear hB hN hm hr p0 p1
  all_goals omega
theorem numI_6 {w : Int} : numI 6 w = numV 6 w := by unfold numI; rw [if_neg (by simp [shS])]
theorem ok_6 (a b c n : Int) : okF 6 a b c n = true ↔ (0 ≤ n ∧ n ≤ 0) ∧ (0 ≤ a ∧ a < 32) ∧ (0 ≤ b ∧ b < 32) ∧ (0 ≤ c ∧ c < 32) := by
  simp only [okF, fitsF, regF, hasD, has1, has2, least, most, shE, Bool.and_eq_true, Bool.or_eq_true, decide_eq_true_eq, Bool.not_true, Bool.not_false, true_or, false_or, and_true, tmod2, Bool.false_eq_true]
  all_goals omega
theorem cut_6 {op a f3 b c f7 w : Int} (hop : 0 ≤ op ∧ op < 128) (ha : 0 ≤ a ∧ a < 32) (hf3 : 0 ≤ f3 ∧ f3 < 8) (hb : 0 ≤ b ∧ b < 32) (hc : 0 ≤ c ∧ c < 32) (hf7 : 0 ≤ f7 ∧ f7 < 128) (e : w = op + a * 128 + f3 * 4096 + b * 32768 + c * 1048576 + f7 * 33554432) : (0 ≤ w ∧ w < 4294967296) ∧ w % 128 = op ∧ w / 128 % 32 = a ∧ w / 4096 % 8 = f3 ∧ w / 32768 % 32 = b ∧ w / 1048576 % 32 = c ∧ w / 33554432 % 128 = f7 := by
  refine ⟨by omega, by omega, by omega, by omega, by omega, by omega, by omega⟩
theorem ex_6 {w : Int} (hw : 0 ≤ w ∧ w < 4294967296) : w = w % 128 + w / 128 % 32 * 128 + w / 4096 % 8 * 4096 + w / 32768 % 32 * 32768 + w / 1048576 % 32 * 1048576 + w / 33554432 % 128 * 33554432 := by
  have s0 : w = w % 128 + 128 * (w / 128) := by omega
  have s1 : w / 128 = w / 128 % 32 + 32 * (w / 4096) := by omega
  have s2 : w / 4096 = w / 4096 % 8 + 8 * (w / 32768) := by omega
  have s3 : w / 32768 = w / 32768 % 32 + 32 * (w / 1048576) := by omega
  have s4 : w / 1048576 = w / 1048576 % 32 + 32 * (w / 33554432) := by omega
  have s5 : w / 33554432 = w / 33554432 % 128 + 128 * (0) := by omega
  generalize w % 128 = v0 at *
  generalize w / 128 % 32 = v1 at *
  generalize w / 4096 % 8 = v2 at *
  generalize w / 32768 % 32 = v3 at *
  generalize w / 1048576 % 32 = v4 at *
  generalize w / 33554432 % 128 = v5 at *
  generalize w / 33554432 = W5 at *
  generalize w / 1048576 = W4 at *
  generalize w / 32768 = W3 at *
  generalize w / 4096 = W2 at *
  generalize w / 128 = W1 at *
  omega
theorem d1_6 {B a b c n w : Int} (hB : 0 ≤ B ∧ B < 4294967296 ∧ B % 128 + B / 4096 % 8 * 4096 + B / 33554432 * 33554432 = B) (h : okF 6 a b c n = true) (e : encW 6 B a b c n = w) : (0 ≤ w ∧ w < 4294967296) ∧ bitsI .and .u32 w (mask 6) = B ∧ fldI (hasD 6) 7 w = a ∧ fldI (has1 6) 15 w = b ∧ fldI (has2 6) 20 w = c ∧ numI 6 w = n := by
  obtain ⟨hn, ha, hb, hc⟩ := (ok_6 a b c n).1 h
  rw [enc_6 hB ha hb hc] at e
  obtain ⟨op, hop⟩ : ∃ z, z = B % 128 := ⟨_, rfl⟩
  obtain ⟨f3, hf3⟩ : ∃ z, z = B / 4096 % 8 := ⟨_, rfl⟩
  obtain ⟨f7, hf7⟩ : ∃ z, z = B / 33554432 := ⟨_, rfl⟩
  have bo : 0 ≤ op ∧ op < 128 := by clear e; omega
  have b3 : 0 ≤ f3 ∧ f3 < 8 := by clear e; omega
  have b7 : 0 ≤ f7 ∧ f7 < 128 := by clear e; omega
  rw [← hop, ← hf3, ← hf7] at hB
  clear hop hf3 hf7
  have eB : B = op + f3 * 4096 + f7 * 33554432 := by omega
  clear hB
  subst eB
  obtain ⟨hw, t0, t1, t2, t3, t4, t5⟩ := cut_6 bo ha b3 hb hc b7 (w := w) (by omega)
  rw [show mask 6 = 4261441663 from rfl, maskR hw, show hasD 6 = true from rfl, show has1 6 = true from rfl, show has2 6 = true from rfl]
  rw [fld7 hw, fld15 hw, fld20 hw]
  have hv := num_6 hw
  have hN : numI 6 w = n := by rw [numI_6, hv]; clear hv e t0 t1 t2 t3 t4 t5; omega
  have t7 : w / 33554432 = f7 := by clear hv hN e t0 t1 t2 t3 t4; omega
  exact ⟨hw, by rw [t0, t2, t7], t1, t3, t4, hN⟩
theorem d2_6 {B w : Int} (hB : 0 ≤ B ∧ B < 4294967296 ∧ B % 128 + B / 4096 % 8 * 4096 + B / 33554432 * 33554432 = B) (hw : 0 ≤ w ∧ w < 4294967296) (h : bitsI .and .u32 w (mask 6) = B) : okF 6 (fldI (hasD 6) 7 w) (fldI (has1 6) 15 w) (fldI (has2 6) 20 w) (numI 6 w) = true ∧ encW 6 B (fldI (hasD 6) 7 w) (fldI (has1 6) 15 w) (fldI (has2 6) 20 w) (numI 6 w) = w := by
  rw [show mask 6 = 4261441663 from rfl, maskR hw] at h
  rw [show hasD 6 = true from rfl, show has1 6 = true from rfl, show has2 6 = true from rfl]
  rw [fld7 hw, fld15 hw, fld20 hw]
  have hex := ex_6 hw
  have hv := num_6 hw
  have g0 : 0 ≤ w % 128 ∧ w % 128 < 128 := by clear hB h hex hv; omega
  have g1 : 0 ≤ w / 128 % 32 ∧ w / 128 % 32 < 32 := by clear hB h hex hv; omega
  have g2 : 0 ≤ w / 4096 % 8 ∧ w / 4096 % 8 < 8 := by clear hB h hex hv; omega
  have g3 : 0 ≤ w / 32768 % 32 ∧ w / 32768 % 32 < 32 := by clear hB h hex hv; omega
  have g4 : 0 ≤ w / 1048576 % 32 ∧ w / 1048576 % 32 < 32 := by clear hB h hex hv; omega
  have g5 : 0 ≤ w / 33554432 % 128 ∧ w / 33554432 % 128 < 128 := by clear hB h hex hv; omega
  have e7 : w / 33554432 % 128 = w / 33554432 := by clear hB h hex hv; omega
  have hN := numI_6 (w := w)
  rw [hv] at hN
  clear hv
  generalize w % 128 = v_op at *
  generalize w / 128 % 32 = v_a at *
  generalize w / 4096 % 8 = v_f3 at *
  generalize w / 32768 % 32 = v_b at *
  generalize w / 1048576 % 32 = v_c at *
  generalize w / 33554432 % 128 = v_f7 at *
  generalize numI 6 w = n at *
  have hr : n = 0 := by clear hB h hex; omega
  refine ⟨(ok_6 _ _ _ _).2 (by clear hB h hex hN; omega), ?_⟩
  rw [enc_6 hB g1 g3 g4]
  clear hB hN
  all_goals omega
theorem numI_7 {w : Int} : numI 7 w = numV 7 w := by unfold numI; rw [if_neg (by simp [shS])]
theorem ok_7 (a b c n : Int) : okF 7 a b c n = true ↔ (0 ≤ n ∧ n ≤ 0) ∧ a = 0 ∧ b = 0 ∧ c = 0 := by
  simp only [okF, fitsF, regF, hasD, has1, has2, least, most, shE, Bool.and_eq_true, Bool.or_eq_true, decide_eq_true_eq, Bool.not_true, Bool.not_false, true_or, false_or, and_true, tmod2, Bool.false_eq_true]
  all_goals omega
theorem d1_7 {B a b c n w : Int} (hB : B = 115 ∨ B = 1048691) (h : okF 7 a b c n = true) (e : encW 7 B a b c n = w) : (0 ≤ w ∧ w < 4294967296) ∧ bitsI .and .u32 w (mask 7) = B ∧ fldI (hasD 7) 7 w = a ∧ fldI (has1 7) 15 w = b ∧ fldI (has2 7) 20 w = c ∧ numI 7 w = n := by
  obtain ⟨hn, ha, hb, hc⟩ := (ok_7 a b c n).1 h
  subst ha hb hc
  rw [enc_7 hB] at e
  subst e
  have hw : 0 ≤ B ∧ B < 4294967296 := by omega
  rw [show mask 7 = 4294967295 from rfl, mask32 hw]
  have hv := num_7 hw
  exact ⟨hw, rfl, rfl, rfl, rfl, by rw [numI_7, hv]; omega⟩
theorem d2_7 {B w : Int} (hB : B = 115 ∨ B = 1048691) (hw : 0 ≤ w ∧ w < 4294967296) (h : bitsI .and .u32 w (mask 7) = B) : okF 7 (fldI (hasD 7) 7 w) (fldI (has1 7) 15 w) (fldI (has2 7) 20 w) (numI 7 w) = true ∧ encW 7 B (fldI (hasD 7) 7 w) (fldI (has1 7) 15 w) (fldI (has2 7) 20 w) (numI 7 w) = w := by
  rw [show mask 7 = 4294967295 from rfl, mask32 hw] at h
  have hN : numI 7 w = 0 := by rw [numI_7, num_7 hw]
  rw [hN, show fldI (hasD 7) 7 w = 0 from rfl, show fldI (has1 7) 15 w = 0 from rfl, show fldI (has2 7) 20 w = 0 from rfl]
  exact ⟨rfl, by rw [enc_7 hB]; exact h.symm⟩
theorem rowC_of {r : Rw} (h : r ∈ rowsL) : rowC r = true := List.all_eq_true.1 rows_C r h
theorem d1 {r : Rw} (hr : r ∈ rowsL) {a b c n w : Int} (h : okF r.form a b c n = true) (e : encW r.form r.bits a b c n = w) : (0 ≤ w ∧ w < 4294967296) ∧ decR w = some r ∧ fldI (hasD r.form) 7 w = a ∧ fldI (has1 r.form) 15 w = b ∧ fldI (has2 r.form) 20 w = c ∧ numI r.form w = n := by
  have hC := rowC_of hr
  have h8 := forms_ok r hr
  have key : (0 ≤ w ∧ w < 4294967296) ∧ bitsI .and .u32 w (mask r.form) = r.bits ∧ fldI (hasD r.form) 7 w = a ∧ fldI (has1 r.form) 15 w = b ∧ fldI (has2 r.form) 20 w = c ∧ numI r.form w = n := by
    obtain ⟨nm, f, B⟩ := r
    simp only at h8 h e hC ⊢
    obtain rfl | rfl | rfl | rfl | rfl | rfl | rfl | rfl : f = 0 ∨ f = 1 ∨ f = 2 ∨ f = 3 ∨ f = 4 ∨ f = 5 ∨ f = 6 ∨ f = 7 := by omega
    all_goals simp only [rowC, Bool.and_eq_true, Bool.or_eq_true, decide_eq_true_eq] at hC
    · exact d1_0 hC h e
    · exact d1_1 hC h e
    · exact d1_2 hC h e
    · exact d1_3 hC h e
    · exact d1_4 hC h e
    · exact d1_5 hC h e
    · exact d1_6 hC h e
    · exact d1_7 hC h e
  exact ⟨key.1, decR_of hr key.1 key.2.1, key.2.2⟩
theorem d2 {r : Rw} (hr : r ∈ rowsL) {w : Int} (hw : 0 ≤ w ∧ w < 4294967296) (h : bitsI .and .u32 w (mask r.form) = r.bits) :
    okF r.form (fldI (hasD r.form) 7 w) (fldI (has1 r.form) 15 w) (fldI (has2 r.form) 20 w) (numI r.form w) = true ∧ encW r.form r.bits (fldI (hasD r.form) 7 w) (fldI (has1 r.form) 15 w) (fldI (has2 r.form) 20 w) (numI r.form w) = w := by
  have hC := rowC_of hr
  have h8 := forms_ok r hr
  obtain ⟨nm, f, B⟩ := r
  simp only at h8 h hC ⊢
  obtain rfl | rfl | rfl | rfl | rfl | rfl | rfl | rfl : f = 0 ∨ f = 1 ∨ f = 2 ∨ f = 3 ∨ f = 4 ∨ f = 5 ∨ f = 6 ∨ f = 7 := by omega
  all_goals simp only [rowC, Bool.and_eq_true, Bool.or_eq_true, decide_eq_true_eq] at hC
  · exact d2_0 hC hw h
  · exact d2_1 hC hw h
  · exact d2_2 hC hw h
  · exact d2_3 hC hw h
  · exact d2_4 hC hw h
  · exact d2_5 hC hw h
  · exact d2_6 hC hw h
  · exact d2_7 hC hw h
end Go.Proofs.Ytloihfdiabbcpaa.Sx
