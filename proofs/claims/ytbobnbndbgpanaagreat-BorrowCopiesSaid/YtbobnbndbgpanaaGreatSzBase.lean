/- The base of an executor of the model's code over terms: numbers, conditions and values as data, and what they mean. -/
import Derived.WalkKit
import Derived.ProofKit
namespace Go.Proofs.YtbobnbndbgpanaaGreat.Sx
open Go
set_option linter.unusedVariables false
set_option linter.unusedSimpArgs false

/-! ### Terms -/
inductive E where
  | lit (n : Int)
  | var (i : Nat)
  | wrap (k : IntKind) (e : E)
  | add (a b : E)
  | sub (a b : E)
  | mul (a b : E)
  | quo (a b : E)
  | rem (a b : E)
  | bits (op : BinOp) (k : IntKind) (a b : E)
  | shl (k : IntKind) (a n : E)
  | shr (k : IntKind) (a n : E)
  | fn (i : Nat) (a b c : E)
  | fn5 (i : Nat) (a b c d e : E)
  deriving DecidableEq, Repr, Inhabited

/-- Are two terms the same? (Quicker in the kernel than the derived decision.) -/
def E.beq : E → E → Bool
  | .lit a, y => match y with | .lit b => decide (a = b) | _ => false
  | .var i, y => match y with | .var j => Nat.beq i j | _ => false
  | .wrap k a, y => match y with | .wrap k' b => decide (k = k') && a.beq b | _ => false
  | .add a b, y => match y with | .add c d => a.beq c && b.beq d | _ => false
  | .sub a b, y => match y with | .sub c d => a.beq c && b.beq d | _ => false
  | .mul a b, y => match y with | .mul c d => a.beq c && b.beq d | _ => false
  | .quo a b, y => match y with | .quo c d => a.beq c && b.beq d | _ => false
  | .rem a b, y => match y with | .rem c d => a.beq c && b.beq d | _ => false
  | .bits o k a b, y => match y with | .bits o' k' c d => decide (o = o') && decide (k = k') && a.beq c && b.beq d | _ => false
  | .shl k a b, y => match y with | .shl k' c d => decide (k = k') && a.beq c && b.beq d | _ => false
  | .shr k a b, y => match y with | .shr k' c d => decide (k = k') && a.beq c && b.beq d | _ => false
  | .fn i a b c, y => match y with | .fn j d e f => Nat.beq i j && a.beq d && b.beq e && c.beq f | _ => false
  | .fn5 i a b c d e, y => match y with | .fn5 j a' b' c' d' e' => Nat.beq i j && a.beq a' && b.beq b' && c.beq c' && d.beq d' && e.beq e' | _ => false
theorem E.beq_eq : ∀ {a b : E}, a.beq b = true → a = b
  | .lit a, y, h => by cases y <;> simp_all [E.beq]
  | .var i, y, h => by cases y <;> simp_all [E.beq]
  | .wrap k a, y, h => by cases y <;> simp [E.beq] at h; rw [h.1, E.beq_eq h.2]
  | .add a b, y, h => by cases y <;> simp [E.beq] at h; rw [E.beq_eq h.1, E.beq_eq h.2]
  | .sub a b, y, h => by cases y <;> simp [E.beq] at h; rw [E.beq_eq h.1, E.beq_eq h.2]
  | .mul a b, y, h => by cases y <;> simp [E.beq] at h; rw [E.beq_eq h.1, E.beq_eq h.2]
  | .quo a b, y, h => by cases y <;> simp [E.beq] at h; rw [E.beq_eq h.1, E.beq_eq h.2]
  | .rem a b, y, h => by cases y <;> simp [E.beq] at h; rw [E.beq_eq h.1, E.beq_eq h.2]
  | .bits o k a b, y, h => by cases y <;> simp [E.beq] at h; rw [h.1.1.1, h.1.1.2, E.beq_eq h.1.2, E.beq_eq h.2]
  | .shl k a b, y, h => by cases y <;> simp [E.beq] at h; rw [h.1.1, E.beq_eq h.1.2, E.beq_eq h.2]
  | .shr k a b, y, h => by cases y <;> simp [E.beq] at h; rw [h.1.1, E.beq_eq h.1.2, E.beq_eq h.2]
  | .fn i a b c, y, h => by cases y <;> simp [E.beq] at h; rw [h.1.1.1, E.beq_eq h.1.1.2, E.beq_eq h.1.2, E.beq_eq h.2]
  | .fn5 i a b c d e, y, h => by cases y <;> simp [E.beq] at h; rw [h.1.1.1.1.1, E.beq_eq h.1.1.1.1.2, E.beq_eq h.1.1.1.2, E.beq_eq h.1.1.2, E.beq_eq h.1.2, E.beq_eq h.2]

inductive S where
  | lit (l : List UInt8)
  | var (i : Nat)
  | fn (i : Nat) (a : E)
  deriving DecidableEq, Inhabited
def S.beq : S → S → Bool
  | .lit a, y => match y with | .lit b => decide (a = b) | _ => false
  | .var i, y => match y with | .var j => Nat.beq i j | _ => false
  | .fn i a, y => match y with | .fn j b => Nat.beq i j && a.beq b | _ => false
theorem S.beq_eq : ∀ {a b : S}, a.beq b = true → a = b
  | .lit a, y, h => by cases y <;> simp_all [S.beq]
  | .var i, y, h => by cases y <;> simp_all [S.beq]
  | .fn i a, y, h => by cases y <;> simp [S.beq] at h; rw [h.1, E.beq_eq h.2]

inductive B where
  | lit (b : Bool)
  | var (i : Nat)
  | cmp (op : BinOp) (a b : E)
  | not (a : B)
  | eqb (a b : B)
  | seq (a b : S)
  | and (a b : B)
  | fn (i : Nat) (a b c : E)
  | fn5 (i : Nat) (a b c d e : E)
  deriving DecidableEq, Inhabited

/-- What the variables are. -/
structure Env where
  i : Nat → Int := fun _ => 0
  b : Nat → Bool := fun _ => false
  s : Nat → ByteArray := fun _ => ByteArray.empty
  fi : Nat → Int → Int → Int → Int := fun _ _ _ _ => 0
  fb : Nat → Int → Int → Int → Bool := fun _ _ _ _ => false
  fi5 : Nat → Int → Int → Int → Int → Int → Int := fun _ _ _ _ _ _ => 0
  fb5 : Nat → Int → Int → Int → Int → Int → Bool := fun _ _ _ _ _ _ => false
  fs : Nat → Int → ByteArray := fun _ _ => ByteArray.empty

def shN (k : IntKind) (n : Int) : Nat := min n.toNat k.bits

def bitsI (op : BinOp) (k : IntKind) (x y : Int) : Int :=
  let a := BitVec.ofInt k.bits x
  let b := BitVec.ofInt k.bits y
  match op with
  | .and => k.wrap (a &&& b).toNat
  | .or => k.wrap (a ||| b).toNat
  | .xor => k.wrap (a ^^^ b).toNat
  | .andNot => k.wrap (a &&& ~~~b).toNat
  | _ => 0

def E.den (η : Env) : E → Int
  | .lit n => n
  | .var i => η.i i
  | .wrap k e => k.wrap (e.den η)
  | .add a b => a.den η + b.den η
  | .sub a b => a.den η - b.den η
  | .mul a b => a.den η * b.den η
  | .quo a b => (a.den η).tdiv (b.den η)
  | .rem a b => (a.den η).tmod (b.den η)
  | .bits op k a b => bitsI op k (a.den η) (b.den η)
  | .shl k a n => k.wrap (a.den η * 2 ^ shN k (n.den η))
  | .shr k a n => (a.den η).fdiv (2 ^ shN k (n.den η))
  | .fn i a b c => η.fi i (a.den η) (b.den η) (c.den η)
  | .fn5 i a b c d e => η.fi5 i (a.den η) (b.den η) (c.den η) (d.den η) (e.den η)

def S.den (η : Env) : S → ByteArray
  | .lit l => ⟨l.toArray⟩
  | .var i => η.s i
  | .fn i a => η.fs i (a.den η)

def cmpI (op : BinOp) (x y : Int) : Bool :=
  match op with
  | .eql => x == y
  | .neq => x != y
  | .lss => decide (x < y)
  | .leq => decide (x ≤ y)
  | .gtr => decide (x > y)
  | .geq => decide (x ≥ y)
  | _ => false

def B.den (η : Env) : B → Bool
  | .lit b => b
  | .var i => η.b i
  | .cmp op a b => cmpI op (a.den η) (b.den η)
  | .not a => !(a.den η)
  | .eqb a b => a.den η == b.den η
  | .seq a b => (a.den η).toList == (b.den η).toList
  | .and a b => a.den η && b.den η
  | .fn i a b c => η.fb i (a.den η) (b.den η) (c.den η)
  | .fn5 i a b c d e => η.fb5 i (a.den η) (b.den η) (c.den η) (d.den η) (e.den η)

/-! ### Terms that are made: numbers are reckoned at once -/
/-- Between which numbers a term lies, where that is plain to see. -/
def E.rng : E → Option (Int × Int)
  | .lit n => some (n, n)
  | .wrap k _ => some (k.min, k.max)
  | .shl k _ _ => some (k.min, k.max)
  | .bits op k _ b => match op, b with
    | .and, .lit n => if 0 ≤ n ∧ n ≤ k.max then some (0, n) else some (k.min, k.max)
    | _, _ => some (k.min, k.max)
  | .mul a b => match a.rng, b.rng with
    | some x, some y => if 0 ≤ x.1 ∧ 0 ≤ y.1 then some (x.1 * y.1, x.2 * y.2) else none
    | _, _ => none
  | .add a b => match a.rng, b.rng with
    | some x, some y => some (x.1 + y.1, x.2 + y.2)
    | _, _ => none
  | .sub a b => match a.rng, b.rng with
    | some x, some y => some (x.1 - y.2, x.2 - y.1)
    | _, _ => none
  | .rem _ (.lit n) => if 0 < n then some (1 - n, n - 1) else none
  | _ => none
def E.inside (k : IntKind) (e : E) : Bool :=
  match e.rng with
  | some x => decide (k.min ≤ x.1) && decide (x.2 ≤ k.max)
  | none => false
def E.wrap' (k : IntKind) : E → E
  | .lit n => .lit (k.wrap n)
  | e => if e.inside k then e else .wrap k e
def E.bin2 (f : Int → Int → Int) (g : E → E → E) : E → E → E
  | .lit a, .lit b => .lit (f a b)
  | a, b => g a b
def B.cmp' (op : BinOp) : E → E → B
  | .lit a, .lit b => .lit (cmpI op a b)
  | a, b => .cmp op a b
def B.not' : B → B
  | .lit b => .lit (!b)
  | .not b => b
  | b => .not b
def B.eqb' : B → B → B
  | .lit a, .lit b => .lit (a == b)
  | .lit true, b => b
  | .lit false, b => .not' b
  | a, .lit true => a
  | a, .lit false => .not' a
  | a, b => .eqb a b
def B.and' : B → B → B
  | .lit true, b => b
  | .lit false, _ => .lit false
  | a, .lit true => a
  | a, b => .and a b
def B.seq' : S → S → B
  | .lit a, .lit b => .lit (a == b)
  | a, b => .seq a b

theorem wrap_i8 (n : Int) : IntKind.i8.wrap n = (n + 128) % 256 - 128 := by
  simp [IntKind.wrap, IntKind.bits, IntKind.signed]; split <;> omega
theorem wrap_i16 (n : Int) : IntKind.i16.wrap n = (n + 32768) % 65536 - 32768 := by
  simp [IntKind.wrap, IntKind.bits, IntKind.signed]; split <;> omega
theorem wrap_i32 (n : Int) : IntKind.i32.wrap n = (n + 2147483648) % 4294967296 - 2147483648 := by
  simp [IntKind.wrap, IntKind.bits, IntKind.signed]; split <;> omega
theorem wrap_i64 (n : Int) : IntKind.i64.wrap n = (n + 9223372036854775808) % 18446744073709551616 - 9223372036854775808 := by
  simp [IntKind.wrap, IntKind.bits, IntKind.signed]; split <;> omega
theorem wrap_u8 (n : Int) : IntKind.u8.wrap n = n % 256 := by simp [IntKind.wrap, IntKind.bits, IntKind.signed]
theorem wrap_u16 (n : Int) : IntKind.u16.wrap n = n % 65536 := by simp [IntKind.wrap, IntKind.bits, IntKind.signed]
theorem wrap_u32 (n : Int) : IntKind.u32.wrap n = n % 4294967296 := by simp [IntKind.wrap, IntKind.bits, IntKind.signed]
theorem wrap_u64 (n : Int) : IntKind.u64.wrap n = n % 18446744073709551616 := by simp [IntKind.wrap, IntKind.bits, IntKind.signed]
theorem wrap_wrap (k : IntKind) (n : Int) : k.wrap (k.wrap n) = k.wrap n := by
  cases k <;> simp only [wrap_i8, wrap_i16, wrap_i32, wrap_i64, wrap_u8, wrap_u16, wrap_u32, wrap_u64] <;> omega
theorem wrap_between (k : IntKind) (n : Int) : k.min ≤ k.wrap n ∧ k.wrap n ≤ k.max := by
  cases k <;> simp only [wrap_i8, wrap_i16, wrap_i32, wrap_i64, wrap_u8, wrap_u16, wrap_u32, wrap_u64] <;> simp [IntKind.min, IntKind.max, IntKind.signed, IntKind.bits] <;> omega
theorem wrap_id (k : IntKind) (n : Int) (h : k.min ≤ n) (h' : n ≤ k.max) : k.wrap n = n := by
  cases k <;> simp [IntKind.min, IntKind.max, IntKind.signed, IntKind.bits] at h h' <;> simp only [wrap_i8, wrap_i16, wrap_i32, wrap_i64, wrap_u8, wrap_u16, wrap_u32, wrap_u64] <;> omega
theorem and_lit_between (k : IntKind) (x n : Int) (h0 : 0 ≤ n) (h1 : n ≤ k.max) : 0 ≤ bitsI .and k x n ∧ bitsI .and k x n ≤ n := by
  have hm : ((BitVec.ofInt k.bits x &&& BitVec.ofInt k.bits n).toNat : Int) ≤ n := by
    have e1 : (BitVec.ofInt k.bits x &&& BitVec.ofInt k.bits n).toNat ≤ (BitVec.ofInt k.bits n).toNat := by
      rw [BitVec.toNat_and]; exact Nat.and_le_right
    have e2 : ((BitVec.ofInt k.bits n).toNat : Int) ≤ n := by
      have hp : (0:Int) < ((2 ^ k.bits : Nat) : Int) := by exact_mod_cast Nat.two_pow_pos k.bits
      rw [BitVec.toNat_ofInt, Int.toNat_of_nonneg (Int.emod_nonneg _ (Int.ne_of_gt hp))]
      have d1 := Int.mul_ediv_add_emod n ((2 ^ k.bits : Nat) : Int)
      have d2 := Int.mul_nonneg (Int.le_of_lt hp) (Int.ediv_nonneg h0 (Int.le_of_lt hp))
      omega
    omega
  simp only [bitsI]
  have hk : k.min ≤ 0 := by cases k <;> simp [IntKind.min, IntKind.signed, IntKind.bits]
  rw [wrap_id k _ (by omega) (by omega)]
  omega
theorem E.rng_ok (η : Env) : ∀ (e : E) (x : Int × Int), e.rng = some x → x.1 ≤ e.den η ∧ e.den η ≤ x.2
  | .lit n, x, h => by simp only [E.rng, Option.some.injEq] at h; subst h; simp [E.den]
  | .var i, x, h => by simp [E.rng] at h
  | .wrap k e, x, h => by simp only [E.rng, Option.some.injEq] at h; subst h; exact wrap_between _ _
  | .shl k a n, x, h => by simp only [E.rng, Option.some.injEq] at h; subst h; exact wrap_between _ _
  | .bits op k a b, x, h => by
    have hall : k.min ≤ bitsI op k (a.den η) (b.den η) ∧ bitsI op k (a.den η) (b.den η) ≤ k.max := by
      unfold bitsI
      split <;> first | exact wrap_between _ _ | (cases k <;> simp [IntKind.min, IntKind.max, IntKind.signed, IntKind.bits])
    simp only [E.rng] at h
    split at h
    · rename_i n
      split at h
      · rename_i hn
        injection h with h; subst h
        exact and_lit_between k _ n hn.1 hn.2
      · injection h with h; subst h; exact hall
    · injection h with h; subst h; exact hall
  | .add a b, x, h => by
    simp only [E.rng] at h
    split at h
    · rename_i y z hy hz
      have h1 := E.rng_ok η a y hy; have h2 := E.rng_ok η b z hz
      injection h with h; subst h; simp only [E.den]; omega
    · simp at h
  | .sub a b, x, h => by
    simp only [E.rng] at h
    split at h
    · rename_i y z hy hz
      have h1 := E.rng_ok η a y hy; have h2 := E.rng_ok η b z hz
      injection h with h; subst h; simp only [E.den]; omega
    · simp at h
  | .mul a b, x, h => by
    simp only [E.rng] at h
    split at h
    · rename_i y z hy hz
      have h1 := E.rng_ok η a y hy; have h2 := E.rng_ok η b z hz
      split at h
      · rename_i hc
        injection h with h; subst h; simp only [E.den]
        exact ⟨Int.mul_le_mul h1.1 h2.1 hc.2 (by omega), Int.mul_le_mul h1.2 h2.2 (by omega) (by omega)⟩
      · simp at h
    · simp at h
  | .quo a b, x, h => by simp [E.rng] at h
  | .shr k a n, x, h => by simp [E.rng] at h
  | .fn i a b c, x, h => by simp [E.rng] at h
  | .fn5 i a b c d e, x, h => by simp [E.rng] at h
  | .rem a b, x, h => by
    cases b with
    | lit n =>
      simp only [E.rng] at h
      split at h
      · rename_i hn
        injection h with h; subst h
        simp only [E.den]
        have h1 := Int.tmod_lt_of_pos (E.den η a) hn
        have h2 := Int.neg_tmod (E.den η a) n
        have h3 := Int.tmod_lt_of_pos (-(E.den η a)) hn
        omega
      · simp at h
    | _ => simp [E.rng] at h
@[simp] theorem E.wrap'_den (η : Env) (k : IntKind) (e : E) : (E.wrap' k e).den η = k.wrap (e.den η) := by
  unfold E.wrap'
  split
  · rfl
  · split
    · rename_i h
      unfold E.inside at h
      split at h
      · rename_i x hx
        have h1 := E.rng_ok η e x hx
        simp only [Bool.and_eq_true, decide_eq_true_eq] at h
        rw [wrap_id k _ (by omega) (by omega)]
      · simp at h
    · rfl
theorem E.bin2_den (η : Env) (f : Int → Int → Int) (g : E → E → E) (hg : ∀ a b, (g a b).den η = f (a.den η) (b.den η)) (a b : E) :
    (E.bin2 f g a b).den η = f (a.den η) (b.den η) := by
  unfold E.bin2
  split
  · rfl
  · exact hg _ _
@[simp] theorem B.cmp'_den (η : Env) (op : BinOp) (a b : E) : (B.cmp' op a b).den η = cmpI op (a.den η) (b.den η) := by
  unfold B.cmp'; split <;> rfl
@[simp] theorem B.not'_den (η : Env) (a : B) : (B.not' a).den η = !(a.den η) := by
  unfold B.not'; split <;> simp [B.den]
@[simp] theorem B.eqb'_den (η : Env) (a b : B) : (B.eqb' a b).den η = (a.den η == b.den η) := by
  unfold B.eqb'
  split <;> simp [B.den] <;> (try (cases B.den η _ <;> rfl))
@[simp] theorem B.and'_den (η : Env) (a b : B) : (B.and' a b).den η = (a.den η && b.den η) := by
  unfold B.and'
  split <;> simp [B.den]
@[simp] theorem B.seq'_den (η : Env) (a b : S) : (B.seq' a b).den η = ((a.den η).toList == (b.den η).toList) := by
  unfold B.seq'
  split
  · rename_i a b
    have h : ∀ l : List UInt8, (⟨l.toArray⟩ : ByteArray).toList = l := fun l => by simp
    simp [B.den, S.den, h]
  · rfl

end Go.Proofs.YtbobnbndbgpanaaGreat.Sx
