/- The law NumFits returns true for every input: from num.Do's answers, fault by fault. -/
import Derived.Test.YtfkhlmmapopacaaProg
import Derived.Test.YtfkhlmmapopacaaSxSum
import Derived.Test.YtfkhlmmapopacaaDoNum
import Derived.Test.YtfkhlmmapopacaaTreeFits
namespace Go.Proofs.Ytfkhlmmapopacaa.Sx
open Go Go.RowKit
set_option linter.unusedVariables false
set_option linter.unusedSimpArgs false
set_option maxRecDepth 100000

theorem ok_iff (k v : Int) : ok k v ↔ (kI k = true ∧ kLo k ≤ v ∧ v ≤ kHi k) := by
  unfold ok
  rcases kinds7 k with rfl | rfl | rfl | rfl | rfl | rfl | hk
  · simp only [show kI 3 = true from rfl, show kW 3 v = IntKind.i8.wrap v from rfl, show kLo 3 = -128 from rfl, show kHi 3 = 127 from rfl, true_and, wrap_i8]; omega
  · simp only [show kI 4 = true from rfl, show kW 4 v = IntKind.i16.wrap v from rfl, show kLo 4 = -32768 from rfl, show kHi 4 = 32767 from rfl, true_and, wrap_i16]; omega
  · simp only [show kI 5 = true from rfl, show kW 5 v = IntKind.i32.wrap v from rfl, show kLo 5 = -2147483648 from rfl, show kHi 5 = 2147483647 from rfl, true_and, wrap_i32]; omega
  · simp only [show kI 6 = true from rfl, show kW 6 v = IntKind.u8.wrap v from rfl, show kLo 6 = 0 from rfl, show kHi 6 = 255 from rfl, true_and, wrap_u8]; omega
  · simp only [show kI 7 = true from rfl, show kW 7 v = IntKind.u16.wrap v from rfl, show kLo 7 = 0 from rfl, show kHi 7 = 65535 from rfl, true_and, wrap_u16]; omega
  · simp only [show kI 8 = true from rfl, show kW 8 v = IntKind.u32.wrap v from rfl, show kLo 8 = 0 from rfl, show kHi 8 = 4294967295 from rfl, true_and, wrap_u32]; omega
  · have : kI k = false := by unfold kI; simp [hk]
    simp [this]
theorem lo_hi (k : Int) : -2147483648 ≤ kLo k ∧ kHi k ≤ 4294967295 := by
  unfold kLo kHi; constructor <;> (repeat' split) <;> omega
theorem rem_eq (a b : Int) (ha : -1099511627776 ≤ a ∧ a ≤ 1099511627776) (hb : ¬ b = 0) : IntKind.i64.wrap (a - IntKind.i64.wrap (IntKind.i64.wrap (a.tdiv b) * b)) = a.tmod b := by
  have h1 : (a.tdiv b).natAbs ≤ a.natAbs := by rw [Int.natAbs_tdiv]; exact Nat.div_le_self _ _
  have h2 : (a.tmod b).natAbs ≤ a.natAbs := by rw [Int.natAbs_tmod]; exact Nat.mod_le _ _
  have h3 := Int.tmod_def a b
  rw [Int.mul_comm] at h3
  have e1 : IntKind.i64.wrap (a.tdiv b) = a.tdiv b := by rw [wrap_i64]; omega
  rw [e1]
  have e2 : IntKind.i64.wrap (a.tdiv b * b) = a.tdiv b * b := by rw [wrap_i64]; omega
  rw [e2, wrap_i64]; omega
theorem kB_le (k : Int) : 0 ≤ kB k ∧ kB k ≤ 32 := by
  unfold kB; constructor <;> (repeat' split) <;> omega
theorem u64_id (b : Int) (h : 0 ≤ b ∧ b ≤ 32) : IntKind.u64.wrap b = b := by rw [wrap_u64]; omega
theorem pow_bound (b : Int) (h : 0 ≤ b ∧ b ≤ 32) : 1 ≤ (2 : Int) ^ shN .i64 b ∧ (2 : Int) ^ shN .i64 b ≤ 4294967296 := by
  have e : shN .i64 b = b.toNat := by unfold shN; simp [IntKind.bits]; omega
  have e2 : ((2 : Int) ^ shN .i64 b) = ((2 ^ shN .i64 b : Nat) : Int) := by simp
  have hle : (2 : Nat) ^ shN .i64 b ≤ 2 ^ 32 := Nat.pow_le_pow_right (by omega) (by omega)
  have hp := Nat.two_pow_pos (shN .i64 b)
  omega
theorem wrap_pow {b k : Int} (h : 0 ≤ b) (h' : b < kB k) : IntKind.i64.wrap (2 ^ shN .i64 b) = 2 ^ shN .i64 b := by
  have := pow_bound b (by have := kB_le k; omega)
  rw [wrap_i64]; omega
theorem pow_ne {b k : Int} (h : 0 ≤ b) (h' : b < kB k) : ¬ (2 : Int) ^ shN .i64 b = 0 := by
  have := pow_bound b (by have := kB_le k; omega)
  omega
theorem shr_eq (a c : Int) (hc : 1 ≤ c ∧ c ≤ 4294967296) (ha : -1099511627776 ≤ a ∧ a ≤ 1099511627776) :
    IntKind.i64.wrap ((IntKind.i64.wrap (a - (IntKind.i64.wrap (a.tmod c + c)).tmod c)).tdiv c) = a.fdiv c := by
  have h1 := Int.tmod_lt_of_pos a (b := c) (by omega)
  have h2 := Int.neg_tmod a c
  have h3 := Int.tmod_lt_of_pos (-a) (b := c) (by omega)
  have e1 : IntKind.i64.wrap (a.tmod c + c) = a.tmod c + c := by rw [wrap_i64]; omega
  rw [e1, tmod_mod a c (by omega)]
  have h4 := Int.emod_nonneg a (b := c) (by omega)
  have h5 := Int.emod_lt_of_pos a (b := c) (by omega)
  have h6 := Int.emod_add_mul_ediv a c
  have e2 : IntKind.i64.wrap (a - a % c) = c * (a / c) := by rw [wrap_i64]; omega
  rw [e2, Int.mul_tdiv_cancel_left _ (by omega), Int.fdiv_eq_ediv_of_nonneg _ (by omega)]
  have h7 : (a / c).natAbs ≤ (c * (a / c)).natAbs := by
    rw [Int.natAbs_mul]; exact Nat.le_mul_of_pos_left _ (by omega)
  rw [wrap_i64]; omega
def fitsF (i : Nat) (k a b : Int) : Int := if i = 11 then kW k a else if i = 12 then kLo k else if i = 13 then kHi k else if i < 50 then sgV (i - 30) k a b else sgF (i - 50) k a b
theorem sgM_F (c : Nat) (k a b : Int) : sgF (sgM c) k a b = sgF c k a b := by
  unfold sgM
  split
  · rename_i e; subst e; simp only [sgF, fitF]
  · split
    · rename_i e; subst e; rfl
    · split
      · rename_i e; subst e; rfl
      · split
        · rename_i e; subst e; rfl
        · rfl
theorem sgC_L (l : List UInt8) : sgC ⟨l.toArray⟩ = sgL l := by
  have q : (⟨l.toArray⟩ : ByteArray).toList = l := by simp
  unfold sgC sgL; rw [q]
theorem sgL_le (l : List UInt8) : sgL l ≤ 10 := by
  unfold sgL; repeat' split
  all_goals omega
theorem sgM_le (c : Nat) (h : c ≤ 10) : sgM c ≤ 10 := by
  unfold sgM; repeat' split
  all_goals omega
theorem four {η : Env} {φ : Place} {k k1 k2 : IntKind} {s : S} {e e1 e2 : E} {l : List Value} (h : VRs η φ [.str s, .int k e, .int k1 e1, .int k2 e2] l) : l = [.string (s.den η), .int k (e.den η), .int k1 (e1.den η), .int k2 (e2.den η)] := by
  cases h with | cons _ _ _ _ h t => cases t with | cons _ _ _ _ h1 t => cases t with | cons _ _ _ _ h2 t => cases t with | cons _ _ _ _ h3 t => cases t; cases h; cases h1; cases h2; cases h3; rfl
theorem fitsF_V (c : Nat) (h : c ≤ 10) (k a b : Int) : fitsF (30 + c) k a b = sgV c k a b := by
  unfold fitsF; rw [if_neg (by omega), if_neg (by omega), if_neg (by omega), if_pos (by omega), show 30 + c - 30 = c by omega]
theorem fitsF_F (c : Nat) (h : c ≤ 10) (k a b : Int) : fitsF (50 + c) k a b = sgF c k a b := by
  unfold fitsF; rw [if_neg (by omega), if_neg (by omega), if_neg (by omega), if_neg (by omega), show 50 + c - 50 = c by omega]
theorem fit_ok (η : Env) (x p q y z : Bool) (h : η.fi = fitsF)
    (hc : ∀ c, flt x p q y z (sgM c) = true → sgV c (fK.den η) (fA.den η) (fB.den η) = 0)
    (hn : ∀ c, c < 10 → flt x p q y z (sgM c) = false → sgF c (fK.den η) (fA.den η) (fB.den η) = 0) :
    ∀ args v, fitG x p q y z args = some v → ∀ φ args' W, VRs η φ args args' → Calls Try.prog 20 args'.toArray W fun e W' => ∃ v', e = .returned v' ∧ (∀ φ, VR η φ v v') ∧ Below W.heap.size W W' := by
  intro args v hv φ args' W ha
  unfold fitG at hv
  split at hv
  · rename_i l k a b
    split at hv
    · simp at hv
    rename_i hL
    rw [four ha]
    have hd := do_calls (⟨l.toArray⟩) (k.den η) (a.den η) (b.den η) W
    rw [sgC_L] at hd
    refine hd.mono ?_
    rintro ex W' ⟨rfl, hb⟩
    refine ⟨_, rfl, fun φ => V.val_ok _ _ ?_, hb⟩
    split at hv
    · rename_i e
      simp only [Bool.and_eq_true] at e
      obtain ⟨⟨e1, e2⟩, e3⟩ := e
      have e1 := E.beq_eq e1; have e2 := E.beq_eq e2; have e3 := E.beq_eq e3
      subst e1 e2 e3
      split at hv
      · rename_i hf
        simp only [Option.some.injEq] at hv; subst hv
        simp only [V.val, V.vals, E.den, h, fitsF_F _ (sgM_le _ (sgL_le l)), sgM_F, hc _ hf]; rfl
      · rename_i hf
        simp only [Option.some.injEq] at hv; subst hv
        have h0 := hn (sgL l) (by have := sgL_le l; omega) (by simpa using hf)
        simp only [V.val, V.vals, E.den, h, fitsF_V _ (sgL_le l), h0]; rfl
    · simp only [Option.some.injEq] at hv; subst hv
      simp only [V.val, V.vals, E.den, h, fitsF_V _ (sgL_le l), fitsF_F _ (sgM_le _ (sgL_le l)), sgM_F]; rfl
  · simp at hv
theorem sumF_ok (η : Env) (x p q y z : Bool) (h : η.fi = fitsF) (h' : η.fb = kG)
    (hc : ∀ c, flt x p q y z (sgM c) = true → sgV c (fK.den η) (fA.den η) (fB.den η) = 0)
    (hn : ∀ c, c < 10 → flt x p q y z (sgM c) = false → sgF c (fK.den η) (fA.den η) (fB.den η) = 0) : SumOk η Try.prog (sumF x p q y z) := by
  refine SumOk.put (SumOk.put (SumOk.put (SumOk.put (noSum_ok _ _) ?_) ?_) ?_) ?_
  · exact fit_ok η x p q y z h hc hn
  · intro args v hv φ args' W ha
    unfold rangeG at hv
    split at hv
    · rename_i e
      simp only [Option.some.injEq] at hv; subst hv
      rw [one_int ha]
      refine (range_calls (e.den η) W).mono ?_
      rintro ex W' ⟨rfl, hb⟩
      refine ⟨_, rfl, fun φ => V.val_ok _ _ ?_, hb⟩
      simp only [V.val, V.vals, E.den, h]; rfl
    · simp at hv
  · intro args v hv φ args' W ha
    unfold intG at hv
    split at hv
    · rename_i e
      simp only [Option.some.injEq] at hv; subst hv
      rw [one_int ha]
      refine (int_calls (e.den η) W).mono ?_
      rintro ex W' ⟨rfl, hb⟩
      refine ⟨_, rfl, fun φ => V.val_ok _ _ ?_, hb⟩
      simp only [V.val, B.den, E.den, h']; rfl
    · simp at hv
  · intro args v hv φ args' W ha
    unfold wrapG at hv
    split at hv
    · rename_i e u
      simp only [Option.some.injEq] at hv; subst hv
      rw [two_ints ha]
      refine (wrap_calls (e.den η) (u.den η) W).mono ?_
      rintro ex W' ⟨rfl, hb⟩
      refine ⟨_, rfl, fun φ => V.val_ok _ _ ?_, hb⟩
      simp only [V.val, E.den, h]; rfl
    · simp at hv
theorem wrap_toNat (x : BitVec 64) : IntKind.i64.wrap (x.toNat : Int) = x.toInt := by
  rw [wrap_i64, BitVec.toInt_eq_toNat_cond]
  have := x.isLt
  split <;> omega
theorem ofInt_ext (n : Nat) (hn : 0 < n ∧ n ≤ 64) (a : Int) (h : -2 ^ (n - 1) ≤ a ∧ a < 2 ^ (n - 1)) : BitVec.ofInt 64 a = BitVec.signExtend 64 (BitVec.ofInt n a) := by
  have e : (BitVec.ofInt n a).toInt = a := by
    rw [BitVec.toInt_ofInt]
    apply Int.bmod_eq_of_le
    · have : (2 : Int) ^ n = 2 * 2 ^ (n - 1) := by
        rw [← Int.pow_succ']; congr 1; omega
      have h2 : ((2 ^ n : Nat) : Int) = (2 : Int) ^ n := by simp
      omega
    · have : (2 : Int) ^ n = 2 * 2 ^ (n - 1) := by
        rw [← Int.pow_succ']; congr 1; omega
      have h2 : ((2 ^ n : Nat) : Int) = (2 : Int) ^ n := by simp
      omega
  rw [BitVec.signExtend, e]
theorem ext_in (n : Nat) (hn : 0 < n ∧ n ≤ 64) (z : BitVec n) : -2 ^ (n - 1) ≤ (BitVec.signExtend 64 z).toInt ∧ (BitVec.signExtend 64 z).toInt < 2 ^ (n - 1) := by
  rw [BitVec.toInt_signExtend_of_le hn.2]
  exact ⟨BitVec.le_toInt z, BitVec.toInt_lt⟩
theorem and_in (n : Nat) (hn : 0 < n ∧ n ≤ 64) (a b : Int) (ha : -2 ^ (n - 1) ≤ a ∧ a < 2 ^ (n - 1)) (hb : -2 ^ (n - 1) ≤ b ∧ b < 2 ^ (n - 1)) : -2 ^ (n - 1) ≤ bitsI .and .i64 a b ∧ bitsI .and .i64 a b < 2 ^ (n - 1) := by
  have e : bitsI .and .i64 a b = (BitVec.signExtend 64 (BitVec.ofInt n a &&& BitVec.ofInt n b)).toInt := by
    rw [BitVec.signExtend_and, ← ofInt_ext n hn a ha, ← ofInt_ext n hn b hb, ← wrap_toNat]; rfl
  rw [e]; exact ext_in n hn _
theorem or_in (n : Nat) (hn : 0 < n ∧ n ≤ 64) (a b : Int) (ha : -2 ^ (n - 1) ≤ a ∧ a < 2 ^ (n - 1)) (hb : -2 ^ (n - 1) ≤ b ∧ b < 2 ^ (n - 1)) : -2 ^ (n - 1) ≤ bitsI .or .i64 a b ∧ bitsI .or .i64 a b < 2 ^ (n - 1) := by
  have e : bitsI .or .i64 a b = (BitVec.signExtend 64 (BitVec.ofInt n a ||| BitVec.ofInt n b)).toInt := by
    rw [BitVec.signExtend_or, ← ofInt_ext n hn a ha, ← ofInt_ext n hn b hb, ← wrap_toNat]; rfl
  rw [e]; exact ext_in n hn _
theorem xor_in (n : Nat) (hn : 0 < n ∧ n ≤ 64) (a b : Int) (ha : -2 ^ (n - 1) ≤ a ∧ a < 2 ^ (n - 1)) (hb : -2 ^ (n - 1) ≤ b ∧ b < 2 ^ (n - 1)) : -2 ^ (n - 1) ≤ bitsI .xor .i64 a b ∧ bitsI .xor .i64 a b < 2 ^ (n - 1) := by
  have e : bitsI .xor .i64 a b = (BitVec.signExtend 64 (BitVec.ofInt n a ^^^ BitVec.ofInt n b)).toInt := by
    rw [BitVec.signExtend_xor, ← ofInt_ext n hn a ha, ← ofInt_ext n hn b hb, ← wrap_toNat]; rfl
  rw [e]; exact ext_in n hn _
theorem uand_in (n : Nat) (hn : n ≤ 32) (a b : Int) (ha : 0 ≤ a ∧ a < 2 ^ n) (hb : 0 ≤ b ∧ b < 2 ^ n) : 0 ≤ bitsI .and .i64 a b ∧ bitsI .and .i64 a b < 2 ^ n := by
  have hle : (2 : Nat) ^ n ≤ 2 ^ 32 := Nat.pow_le_pow_right (by omega) hn
  have h2 : ((2 : Int) ^ n) = ((2 ^ n : Nat) : Int) := by simp
  have ea : (BitVec.ofInt 64 a).toNat = a.toNat := by rw [ofInt_toNat]; omega
  have eb : (BitVec.ofInt 64 b).toNat = b.toNat := by rw [ofInt_toNat]; omega
  have e : bitsI .and .i64 a b = IntKind.i64.wrap (((BitVec.ofInt 64 a &&& BitVec.ofInt 64 b : BitVec 64).toNat : Nat) : Int) := rfl
  have ha' : a.toNat < 2 ^ n := by omega
  have hb' : b.toNat < 2 ^ n := by omega
  have hx : a.toNat &&& b.toNat < 2 ^ n := Nat.and_lt_two_pow _ hb'
  rw [e, BitVec.toNat_and, ea, eb, wrap_i64]
  omega
theorem uor_in (n : Nat) (hn : n ≤ 32) (a b : Int) (ha : 0 ≤ a ∧ a < 2 ^ n) (hb : 0 ≤ b ∧ b < 2 ^ n) : 0 ≤ bitsI .or .i64 a b ∧ bitsI .or .i64 a b < 2 ^ n := by
  have hle : (2 : Nat) ^ n ≤ 2 ^ 32 := Nat.pow_le_pow_right (by omega) hn
  have h2 : ((2 : Int) ^ n) = ((2 ^ n : Nat) : Int) := by simp
  have ea : (BitVec.ofInt 64 a).toNat = a.toNat := by rw [ofInt_toNat]; omega
  have eb : (BitVec.ofInt 64 b).toNat = b.toNat := by rw [ofInt_toNat]; omega
  have e : bitsI .or .i64 a b = IntKind.i64.wrap (((BitVec.ofInt 64 a ||| BitVec.ofInt 64 b : BitVec 64).toNat : Nat) : Int) := rfl
  have ha' : a.toNat < 2 ^ n := by omega
  have hb' : b.toNat < 2 ^ n := by omega
  have hx : a.toNat ||| b.toNat < 2 ^ n := Nat.or_lt_two_pow ha' hb'
  rw [e, BitVec.toNat_or, ea, eb, wrap_i64]
  omega
theorem uxor_in (n : Nat) (hn : n ≤ 32) (a b : Int) (ha : 0 ≤ a ∧ a < 2 ^ n) (hb : 0 ≤ b ∧ b < 2 ^ n) : 0 ≤ bitsI .xor .i64 a b ∧ bitsI .xor .i64 a b < 2 ^ n := by
  have hle : (2 : Nat) ^ n ≤ 2 ^ 32 := Nat.pow_le_pow_right (by omega) hn
  have h2 : ((2 : Int) ^ n) = ((2 ^ n : Nat) : Int) := by simp
  have ea : (BitVec.ofInt 64 a).toNat = a.toNat := by rw [ofInt_toNat]; omega
  have eb : (BitVec.ofInt 64 b).toNat = b.toNat := by rw [ofInt_toNat]; omega
  have e : bitsI .xor .i64 a b = IntKind.i64.wrap (((BitVec.ofInt 64 a ^^^ BitVec.ofInt 64 b : BitVec 64).toNat : Nat) : Int) := rfl
  have ha' : a.toNat < 2 ^ n := by omega
  have hb' : b.toNat < 2 ^ n := by omega
  have hx : a.toNat ^^^ b.toNat < 2 ^ n := Nat.xor_lt_two_pow ha' hb'
  rw [e, BitVec.toNat_xor, ea, eb, wrap_i64]
  omega
theorem lo0 (k : Int) : kLo k ≤ 0 ∧ 0 ≤ kHi k := by
  unfold kLo kHi; constructor <;> (repeat' split) <;> omega
theorem kW_in (k v : Int) : kLo k ≤ kW k v ∧ kW k v ≤ kHi k := by
  unfold kW kLo kHi
  rcases kinds7 k with rfl | rfl | rfl | rfl | rfl | rfl | ⟨h3, h4, h5, h6, h7, h8⟩
  · simp only [if_true]; rw [wrap_i8]; omega
  · simp; rw [wrap_i16]; omega
  · simp; rw [wrap_i32]; omega
  · simp; rw [wrap_u8]; omega
  · simp; rw [wrap_u16]; omega
  · simp; rw [wrap_u32]; omega
  · simp [h3, h4, h5, h6, h7, h8]
theorem tmod_in (a b lo hi : Int) (hb : b ≠ 0) (h : lo ≤ a ∧ a ≤ hi) (h0 : lo ≤ 0 ∧ 0 ≤ hi) : lo ≤ a.tmod b ∧ a.tmod b ≤ hi := by
  have h2 : (a.tmod b).natAbs ≤ a.natAbs := by rw [Int.natAbs_tmod]; exact Nat.mod_le _ _
  by_cases ha : 0 ≤ a
  · have := Int.tmod_nonneg b ha; omega
  · have h3 := Int.tmod_nonneg b (a := -a) (by omega)
    have h4 := Int.neg_tmod a b
    omega
theorem fdiv_in (a c lo hi : Int) (hc : 1 ≤ c) (h : lo ≤ a ∧ a ≤ hi) (h0 : lo ≤ 0 ∧ 0 ≤ hi) : lo ≤ a.fdiv c ∧ a.fdiv c ≤ hi := by
  rw [Int.fdiv_eq_ediv_of_nonneg _ (by omega)]
  have h1 := Int.emod_add_mul_ediv a c
  have h2 := Int.emod_nonneg a (b := c) (by omega)
  have h3 := Int.emod_lt_of_pos a (b := c) (by omega)
  constructor
  · apply Int.le_ediv_of_mul_le (by omega)
    have : lo * c ≤ lo * 1 := Int.mul_le_mul_of_nonpos_left (by omega) hc
    omega
  · by_cases ha : 0 ≤ a
    · have := Int.ediv_le_self c ha; omega
    · have := Int.ediv_neg_of_neg_of_pos (a := a) (b := c) (by omega) (by omega); omega
theorem and_k (k a b : Int) (hk : kI k = true) (ha : kLo k ≤ a ∧ a ≤ kHi k) (hb : kLo k ≤ b ∧ b ≤ kHi k) : (kLo k ≤ bitsI .and .i64 a b ∧ bitsI .and .i64 a b ≤ kHi k) ∧ (kLo k ≤ bitsI .or .i64 a b ∧ bitsI .or .i64 a b ≤ kHi k) ∧ (kLo k ≤ bitsI .xor .i64 a b ∧ bitsI .xor .i64 a b ≤ kHi k) := by
  rcases kinds7 k with rfl | rfl | rfl | rfl | rfl | rfl | ⟨h3, h4, h5, h6, h7, h8⟩
  · have ha : -128 ≤ a ∧ a ≤ 127 := ha
    have hb : -128 ≤ b ∧ b ≤ 127 := hb
    have h1 := and_in 8 (by omega) a b (by omega) (by omega)
    have h2 := or_in 8 (by omega) a b (by omega) (by omega)
    have h3 := xor_in 8 (by omega) a b (by omega) (by omega)
    simp only [show kLo 3 = -128 from rfl, show kHi 3 = 127 from rfl]; omega
  · have ha : -32768 ≤ a ∧ a ≤ 32767 := ha
    have hb : -32768 ≤ b ∧ b ≤ 32767 := hb
    have h1 := and_in 16 (by omega) a b (by omega) (by omega)
    have h2 := or_in 16 (by omega) a b (by omega) (by omega)
    have h3 := xor_in 16 (by omega) a b (by omega) (by omega)
    simp only [show kLo 4 = -32768 from rfl, show kHi 4 = 32767 from rfl]; omega
  · have ha : -2147483648 ≤ a ∧ a ≤ 2147483647 := ha
    have hb : -2147483648 ≤ b ∧ b ≤ 2147483647 := hb
    have h1 := and_in 32 (by omega) a b (by omega) (by omega)
    have h2 := or_in 32 (by omega) a b (by omega) (by omega)
    have h3 := xor_in 32 (by omega) a b (by omega) (by omega)
    simp only [show kLo 5 = -2147483648 from rfl, show kHi 5 = 2147483647 from rfl]; omega
  · have ha : 0 ≤ a ∧ a ≤ 255 := ha
    have hb : 0 ≤ b ∧ b ≤ 255 := hb
    have h1 := uand_in 8 (by omega) a b (by omega) (by omega)
    have h2 := uor_in 8 (by omega) a b (by omega) (by omega)
    have h3 := uxor_in 8 (by omega) a b (by omega) (by omega)
    simp only [show kLo 6 = 0 from rfl, show kHi 6 = 255 from rfl]; omega
  · have ha : 0 ≤ a ∧ a ≤ 65535 := ha
    have hb : 0 ≤ b ∧ b ≤ 65535 := hb
    have h1 := uand_in 16 (by omega) a b (by omega) (by omega)
    have h2 := uor_in 16 (by omega) a b (by omega) (by omega)
    have h3 := uxor_in 16 (by omega) a b (by omega) (by omega)
    simp only [show kLo 7 = 0 from rfl, show kHi 7 = 65535 from rfl]; omega
  · have ha : 0 ≤ a ∧ a ≤ 4294967295 := ha
    have hb : 0 ≤ b ∧ b ≤ 4294967295 := hb
    have h1 := uand_in 32 (by omega) a b (by omega) (by omega)
    have h2 := uor_in 32 (by omega) a b (by omega) (by omega)
    have h3 := uxor_in 32 (by omega) a b (by omega) (by omega)
    simp only [show kLo 8 = 0 from rfl, show kHi 8 = 4294967295 from rfl]; omega
  · unfold kI at hk; simp [h3, h4, h5, h6, h7, h8] at hk
theorem val_in (c : Nat) (k a b : Int) (hk : kI k = true) : kLo k ≤ sgV c k a b ∧ sgV c k a b ≤ kHi k := by
  have h0 := lo0 k
  have hfit : ∀ v, kLo k ≤ fitV k v ∧ fitV k v ≤ kHi k := by
    intro v; unfold fitV; split
    · rename_i h; exact ((ok_iff k v).1 h).2
    · exact h0
  unfold sgV
  split
  · rename_i ha
    have ha := ((ok_iff k a).1 ha).2
    split
    · split
      · exact h0
      · split
        · exact h0
        · exact kW_in k _
    · split
      · exact h0
      · split
        · exact h0
        · exact fdiv_in a _ _ _ (pow_bound b (by have := kB_le k; omega)).1 ha h0
    · split
      · exact hfit _
      · exact h0
    · split
      · exact hfit _
      · exact h0
    · split
      · exact hfit _
      · exact h0
    · split
      · split
        · exact h0
        · exact hfit _
      · exact h0
    · split
      · split
        · exact h0
        · split
          · exact tmod_in a b _ _ (by assumption) ha h0
          · exact h0
      · exact h0
    · split
      · rename_i hb; exact (and_k k a b hk ha ((ok_iff k b).1 hb).2).1
      · exact h0
    · split
      · rename_i hb; exact (and_k k a b hk ha ((ok_iff k b).1 hb).2).2.1
      · exact h0
    · split
      · rename_i hb; exact (and_k k a b hk ha ((ok_iff k b).1 hb).2).2.2
      · exact h0
    · exact h0
  · exact h0
theorem flt_in (c : Nat) (k a b : Int) (ha : ok k a) (hb : ok k b) (hc : c < 10) : sgF c k a b ≠ 3 := by
  unfold sgF fitF
  rw [if_pos ha]
  split <;> (repeat' split) <;> first | omega | (exfalso; omega) | (simp_all; done) | (simp_all; omega)
theorem flt_val (c : Nat) (k a b : Int) (h : sgF c k a b ≠ 0) : sgV c k a b = 0 := by
  unfold sgF fitF at h
  unfold sgV fitV
  split at h
  · rename_i ha
    rw [if_pos ha]
    split at h <;> (repeat' split at h) <;> (repeat' split) <;> first | rfl | (exfalso; omega) | simp_all
  · rename_i ha; rw [if_neg ha]
theorem K_cases (x : Int) : let e := 3 + (bitsI .and .i64 x 7).tmod 6; e = 3 ∨ e = 4 ∨ e = 5 ∨ e = 6 ∨ e = 7 ∨ e = 8 := by
  intro e
  have h : e = 3 + (bitsI .and .i64 x 7).tmod 6 := rfl
  rw [and_7, Int.tmod_eq_emod_of_nonneg (by omega)] at h
  omega
theorem kI_of {k : Int} (h : k = 3 ∨ k = 4 ∨ k = 5 ∨ k = 6 ∨ k = 7 ∨ k = 8) : kI k = true := by
  rcases h with rfl | rfl | rfl | rfl | rfl | rfl <;> rfl
theorem kLH {k : Int} (h : kI k = true) : kLo k < kHi k ∧ 255 ≤ kHi k - kLo k ∧ (kLo k = 0 ∨ kLo k = - kHi k - 1) := by
  rcases kinds7 k with rfl | rfl | rfl | rfl | rfl | rfl | ⟨h3, h4, h5, h6, h7, h8⟩
  · decide
  · decide
  · decide
  · decide
  · decide
  · decide
  · unfold kI at h; simp [h3, h4, h5, h6, h7, h8] at h
theorem in_big {k v : Int} (h : ok k v) : -4294967296 ≤ v ∧ v ≤ 4294967296 := by
  have h1 := ((ok_iff k v).1 h).2
  have h2 := lo_hi k
  omega
theorem add_back (k a b : Int) (ha : ok k a) (hb : ok k b) (h : sgF 0 k a b = 0) : sgF 1 k (sgV 0 k a b) b = 0 ∧ sgV 1 k (sgV 0 k a b) b = a := by
  have h1 := in_big ha; have h2 := in_big hb
  have e : IntKind.i64.wrap (a + b) = a + b := by rw [wrap_i64]; omega
  have hs : ok k (a + b) := by
    simp only [sgF, if_pos ha, if_pos hb, fitF, e] at h
    by_cases q : ok k (a + b)
    · exact q
    · rw [if_neg q] at h; simp at h
  have hv : sgV 0 k a b = a + b := by simp only [sgV, if_pos ha, if_pos hb, fitV, e, if_pos hs]
  have e2 : IntKind.i64.wrap (a + b - b) = a := by rw [wrap_i64]; omega
  rw [hv]
  simp only [sgF, sgV, if_pos hs, if_pos hb, fitF, fitV, e2, if_pos ha, and_self]
theorem add_no (k a b : Int) (ha : ok k a) (hb : ok k b) (h : ¬ sgF 0 k a b = 0) : ¬ (kLo k ≤ IntKind.i64.wrap (a + b) ∧ IntKind.i64.wrap (a + b) ≤ kHi k) := by
  intro q
  apply h
  have hs : ok k (IntKind.i64.wrap (a + b)) := (ok_iff k _).2 ⟨((ok_iff k a).1 ha).1, q.1, q.2⟩
  simp only [sgF, if_pos ha, if_pos hb, fitF, if_pos hs]
theorem div_fine (k a b : Int) (ha : ok k a) (hb : ok k b) (h : sgF 3 k a b = 0) :
    IntKind.i64.wrap (IntKind.i64.wrap (sgV 3 k a b * b) + sgV 4 k a b) = a ∧ (b < 0 → sgV 4 k a b < -b ∧ - sgV 4 k a b < -b) ∧ (0 ≤ b → sgV 4 k a b < b ∧ - sgV 4 k a b < b) := by
  have h1 := in_big ha; have h2 := in_big hb
  have hb0 : ¬ b = 0 := by intro e; simp only [sgF, if_pos ha, if_pos hb, if_pos e] at h; omega
  have hq : (a.tdiv b).natAbs ≤ a.natAbs := by rw [Int.natAbs_tdiv]; exact Nat.div_le_self _ _
  have hr : (a.tmod b).natAbs ≤ a.natAbs := by rw [Int.natAbs_tmod]; exact Nat.mod_le _ _
  have hr2 : (a.tmod b).natAbs < b.natAbs := by rw [Int.natAbs_tmod]; exact Nat.mod_lt _ (by omega)
  have e : IntKind.i64.wrap (a.tdiv b) = a.tdiv b := by rw [wrap_i64]; omega
  have hs : ok k (a.tdiv b) := by
    simp only [sgF, if_pos ha, if_pos hb, if_neg hb0, fitF, e] at h
    by_cases q : ok k (a.tdiv b)
    · exact q
    · rw [if_neg q] at h; simp at h
  have hv : sgV 3 k a b = a.tdiv b := by simp only [sgV, if_pos ha, if_pos hb, if_neg hb0, fitV, e, if_pos hs]
  have hw : sgV 4 k a b = a.tmod b := by simp only [sgV, if_pos ha, if_pos hb, if_neg hb0, e, if_pos hs]
  rw [hv, hw]
  have h3 := Int.tmod_def a b
  rw [Int.mul_comm] at h3
  have e2 : IntKind.i64.wrap (a.tdiv b * b) = a.tdiv b * b := by rw [wrap_i64]; omega
  rw [e2]
  refine ⟨by rw [wrap_i64]; omega, ?_, ?_⟩ <;> intro _ <;> omega
theorem div_no (k a b : Int) (ha : ok k a) (hb : ok k b) (h : ¬ sgF 3 k a b = 0) : b = 0 ∨ b = -1 := by
  by_cases hb0 : b = 0
  · exact .inl hb0
  by_cases hb1 : b = -1
  · exact .inr hb1
  exfalso; apply h
  have h1 := in_big ha; have h2 := in_big hb
  have hq : (a.tdiv b).natAbs ≤ a.natAbs := by rw [Int.natAbs_tdiv]; exact Nat.div_le_self _ _
  have e : IntKind.i64.wrap (a.tdiv b) = a.tdiv b := by rw [wrap_i64]; omega
  have hka := (ok_iff k a).1 ha; have hkb := (ok_iff k b).1 hb
  have hL := kLH hka.1
  have hs : ok k (a.tdiv b) := by
    refine (ok_iff k _).2 ⟨hka.1, ?_⟩
    by_cases h1' : b = 1
    · subst h1'; rw [Int.tdiv_one]; exact hka.2
    have hq2 : (a.tdiv b).natAbs ≤ a.natAbs / 2 := by rw [Int.natAbs_tdiv]; exact Nat.div_le_div_left (by omega) (by omega)
    rcases hL.2.2 with h0 | h0
    · have := Int.tdiv_nonneg (a := a) (b := b) (by omega) (by omega); omega
    · omega
  simp only [sgF, if_pos ha, if_pos hb, if_neg hb0, fitF, e, if_pos hs]
theorem facts_ok (η : Env) (x p q y z : Bool) (h : η.fi = fitsF) (h' : η.fb = kG) (hK : kI (fK.den η) = true) (hA : ok (fK.den η) (fA.den η)) (hB : ok (fK.den η) (fB.den η))
    (hf : ∀ c, flt x p q y z c = true → ¬ sgF c (fK.den η) (fA.den η) (fB.den η) = 0 ∧ c < 10) :
    ∀ r ∈ fitFacts x p q y z, r.1.den η = r.2 := by
  have eLo : fLo.den η = kLo (fK.den η) := by simp only [fLo, E.den, h]; rfl
  have eHi : fHi.den η = kHi (fK.den η) := by simp only [fHi, E.den, h]; rfl
  have hL := kLH hK
  have h0 := lo0 (fK.den η)
  have bA := ((ok_iff _ _).1 hA).2
  have bB := ((ok_iff _ _).1 hB).2
  have no : ∀ b : B, ¬ b.prop η → b.den η = false := fun b hb => by
    cases hd : b.den η with
    | false => rfl
    | true => exact absurd ((B.prop_iff η b).1 hd) hb
  have ye : ∀ b : B, b.prop η → b.den η = true := fun b hb => (B.prop_iff η b).2 hb
  intro r hr
  unfold fitFacts at hr
  simp only [List.mem_append, List.mem_flatMap, List.mem_cons, List.not_mem_nil, or_false, List.mem_range] at hr
  rcases hr with ((rfl | rfl | rfl | rfl | rfl | rfl | rfl | rfl) | ⟨c, hc, hr⟩) | ⟨c, hc, hr⟩
  · refine ye _ ?_; simp only [B.prop, h']; exact hK
  · refine no _ ?_; simp only [B.prop, propI, eLo, eHi]; omega
  · refine no _ ?_; simp only [B.prop, propI, eLo, eHi]; omega
  · refine no _ ?_; simp only [B.prop, propI, eLo, eHi]; omega
  · refine no _ ?_; simp only [B.prop, propI, eLo, eHi]; omega
  · refine no _ ?_; simp only [B.prop, propI, eLo, eHi]; omega
  · refine no _ ?_; simp only [B.prop, propI, eLo, eHi, E.den]; omega
  · refine no _ ?_; simp only [B.prop, propI, eLo, eHi, E.den]; omega
  · have hv := val_in c (fK.den η) (fA.den η) (fB.den η) hK
    have eV : (fV c).den η = sgV c (fK.den η) (fA.den η) (fB.den η) := by simp only [fV, E.den, h]; exact fitsF_V c (by omega) _ _ _
    split at hr
    · simp at hr
    · simp only [List.mem_cons, List.not_mem_nil, or_false] at hr
      rcases hr with rfl | rfl
      · refine no _ ?_; simp only [B.prop, propI, eLo, eHi, eV]; omega
      · refine no _ ?_; simp only [B.prop, propI, eLo, eHi, eV]; omega
  · split at hr
    · rename_i hx
      obtain ⟨g1, g2⟩ := hf c hx
      have g3 := flt_in c _ _ _ hA hB g2
      have eF : (fF c).den η = sgF c (fK.den η) (fA.den η) (fB.den η) := by simp only [fF, E.den, h]; exact fitsF_F c (by omega) _ _ _
      simp only [List.mem_cons, List.not_mem_nil, or_false] at hr
      rcases hr with rfl | rfl | rfl
      · refine no _ ?_; simp only [B.prop, propI, eF, E.den]; exact g3
      · refine ye _ ?_; simp only [B.prop, propI, eF, E.den]; exact g1
      · refine no _ ?_; simp only [B.prop, propI, eF, E.den]; exact g1
    · simp at hr
theorem f51 (k a b : Int) : fitsF 51 k a b = sgF 1 k a b := fitsF_F 1 (by omega) k a b
theorem f53 (k a b : Int) : fitsF 53 k a b = sgF 3 k a b := fitsF_F 3 (by omega) k a b
theorem f30 (k a b : Int) : fitsF 30 k a b = sgV 0 k a b := fitsF_V 0 (by omega) k a b
theorem f31 (k a b : Int) : fitsF 31 k a b = sgV 1 k a b := fitsF_V 1 (by omega) k a b
theorem f33 (k a b : Int) : fitsF 33 k a b = sgV 3 k a b := fitsF_V 3 (by omega) k a b
theorem f34 (k a b : Int) : fitsF 34 k a b = sgV 4 k a b := fitsF_V 4 (by omega) k a b
theorem f11 (k a b : Int) : fitsF 11 k a b = kW k a := rfl
theorem f12 (k a b : Int) : fitsF 12 k a b = kLo k := rfl
theorem f13 (k a b : Int) : fitsF 13 k a b = kHi k := rfl
theorem neg_wrap {b : Int} (h : -4294967296 ≤ b ∧ b ≤ 4294967296) : IntKind.i64.wrap (0 - b) = -b := by rw [wrap_i64]; omega
theorem no_way {b : Int} (d : b = 0 ∨ b = -1) : (b = 0 → True) ∧ (¬ b = 0 → (b = -1 → True) ∧ (¬ b = -1 → false = true)) :=
  ⟨fun _ => trivial, fun h0 => ⟨fun _ => trivial, fun h1 => absurd (d.resolve_left h0) h1⟩⟩
theorem sgM_mid : ∀ c : Nat, c < 10 → ¬ sgM c = 0 → ¬ sgM c = 1 → ¬ sgM c = 2 → ¬ sgM c = 3 → ¬ sgM c = 8 → 5 ≤ sgM c ∧ sgM c ≤ 7 := by
  intro c hc
  obtain rfl | rfl | rfl | rfl | rfl | rfl | rfl | rfl | rfl | rfl : c = 0 ∨ c = 1 ∨ c = 2 ∨ c = 3 ∨ c = 4 ∨ c = 5 ∨ c = 6 ∨ c = 7 ∨ c = 8 ∨ c = 9 := by omega
  all_goals decide
section
variable (η : Env) (h : η.fi = fitsF) (hA : ok (fK.den η) (kW (fK.den η) (η.i 1))) (hB : ok (fK.den η) (kW (fK.den η) (η.i 2)))
include h hA hB
theorem good00 (hx : sgF 0 (fK.den η) (kW (fK.den η) (η.i 1)) (kW (fK.den η) (η.i 2)) = 0) (hy : sgF 3 (fK.den η) (kW (fK.den η) (η.i 1)) (kW (fK.den η) (η.i 2)) = 0) : fits00T.good η := by
  obtain ⟨a1, a2⟩ := add_back _ _ _ hA hB hx
  obtain ⟨d1, d2, d3⟩ := div_fine _ _ _ hA hB hy
  have hbb := in_big hB
  have hn := neg_wrap hbb
  simp only [fK, E.den] at a1 a2 d1 d2 d3 hbb hn
  have hr : ∀ r : Int, -4294967296 ≤ r → r ≤ 4294967296 → IntKind.i64.wrap (0 - r) = -r := fun r h1 h2 => neg_wrap ⟨h1, h2⟩
  simp only [fits00T, T.good, B.prop, E.den, propI, h, f51, f30, f31, f33, f34, f11, a1, a2, d1, hn]
  simp only [ne_eq, not_true_eq_false, false_implies, not_false_eq_true, true_implies, true_and, and_true]
  refine ⟨fun hb => ⟨fun h1 => ?_, fun h1 => ?_⟩, fun hb => ⟨fun h1 => ?_, fun h1 => ?_⟩⟩
  · rw [hr _ (by omega) (by omega)]; omega
  · omega
  · rw [hr _ (by omega) (by omega)]; omega
  · omega
theorem good01 (hx : sgF 0 (fK.den η) (kW (fK.den η) (η.i 1)) (kW (fK.den η) (η.i 2)) = 0) (hy : ¬ sgF 3 (fK.den η) (kW (fK.den η) (η.i 1)) (kW (fK.den η) (η.i 2)) = 0) : fits01T.good η := by
  obtain ⟨a1, a2⟩ := add_back _ _ _ hA hB hx
  have d := div_no _ _ _ hA hB hy
  simp only [fK, E.den] at a1 a2 d
  simp only [fits01T, T.good, B.prop, E.den, propI, h, f51, f30, f31, f53, f11, a1, a2]
  generalize kW (3 + (bitsI BinOp.and IntKind.i64 (η.i 0) 7).tmod 6) (η.i 2) = b at d ⊢
  refine ⟨fun q => absurd rfl q, fun _ => ⟨fun q => absurd rfl q, fun _ => ⟨fun q => absurd rfl q, fun _ => no_way d⟩⟩⟩
theorem good10 (hx : ¬ sgF 0 (fK.den η) (kW (fK.den η) (η.i 1)) (kW (fK.den η) (η.i 2)) = 0) (hy : sgF 3 (fK.den η) (kW (fK.den η) (η.i 1)) (kW (fK.den η) (η.i 2)) = 0) : fits10T.good η := by
  have a := add_no _ _ _ hA hB hx
  obtain ⟨d1, d2, d3⟩ := div_fine _ _ _ hA hB hy
  have hbb := in_big hB
  have hn := neg_wrap hbb
  simp only [fK, E.den] at a d1 d2 d3 hbb hn
  have hr : ∀ r : Int, -4294967296 ≤ r → r ≤ 4294967296 → IntKind.i64.wrap (0 - r) = -r := fun r h1 h2 => neg_wrap ⟨h1, h2⟩
  simp only [fits10T, T.good, B.prop, E.den, propI, h, f33, f34, f11, f12, f13, d1, hn]
  simp only [ne_eq, not_true_eq_false, false_implies, not_false_eq_true, true_implies, true_and, and_true]
  have main : ∀ {r b : Int} (d2 : b < 0 → r < -b ∧ -r < -b) (d3 : 0 ≤ b → r < b ∧ -r < b) (_ : -4294967296 ≤ b ∧ b ≤ 4294967296),
      (-b > b → (r < -b → IntKind.i64.wrap (0 - r) < -b) ∧ (¬ r < -b → (false = true))) ∧ (¬ -b > b → (r < b → IntKind.i64.wrap (0 - r) < b) ∧ (¬ r < b → (false = true))) := by
    intro r b d2 d3 hbb
    refine ⟨fun hb => ⟨fun h1 => ?_, fun h1 => ?_⟩, fun hb => ⟨fun h1 => ?_, fun h1 => ?_⟩⟩
    · rw [hr _ (by omega) (by omega)]; omega
    · omega
    · rw [hr _ (by omega) (by omega)]; omega
    · omega
  exact ⟨fun g1 => ⟨fun g2 => absurd ⟨g1, g2⟩ a, fun _ => main d2 d3 hbb⟩, fun _ => main d2 d3 hbb⟩
theorem good11 (hx : ¬ sgF 0 (fK.den η) (kW (fK.den η) (η.i 1)) (kW (fK.den η) (η.i 2)) = 0) (hy : ¬ sgF 3 (fK.den η) (kW (fK.den η) (η.i 1)) (kW (fK.den η) (η.i 2)) = 0) : fits11T.good η := by
  have a := add_no _ _ _ hA hB hx
  have d := div_no _ _ _ hA hB hy
  simp only [fK, E.den] at a d
  simp only [fits11T, T.good, B.prop, E.den, propI, h, f53, f11, f12, f13]
  refine ⟨fun g1 => ⟨fun g2 => absurd ⟨g1, g2⟩ a, fun _ => ⟨fun q => absurd rfl q, fun _ => no_way d⟩⟩, fun _ => ⟨fun q => absurd rfl q, fun _ => no_way d⟩⟩
end
end Go.Proofs.Ytfkhlmmapopacaa.Sx
