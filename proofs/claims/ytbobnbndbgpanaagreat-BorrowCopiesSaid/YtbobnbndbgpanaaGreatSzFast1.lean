/- Quicker forms for the kernel: cases by recursors, numbers. -/
import Derived.Test.YtbobnbndbgpanaaGreatSzSum
namespace Go.Proofs.YtbobnbndbgpanaaGreat.Sx
open Go
set_option linter.unusedVariables false
set_option linter.unusedSimpArgs false
noncomputable section
variable {β : Type}

/-! ### Cases of a value -/
def V.onBool (v : V) (f : B → β) (z : β) : β :=
  V.rec (motive_1 := fun _ => (B → β) → β → β) (motive_2 := fun _ => Unit) (fun b f _ => f b) (fun _ _ _ z => z) (fun _ _ z => z) (fun _ _ z => z) (fun _ _ _ _ _ z => z) (fun _ z => z) (fun _ _ z => z) (fun _ _ _ _ _ _ z => z) (fun _ z => z) (fun _ _ _ _ z => z) (fun _ z => z) (fun _ _ _ z => z) (fun _ _ _ z => z) () (fun _ _ _ _ => ()) v f z
theorem V.onBool_eq (v : V) (f : B → β) (z : β) : v.onBool f z = (match v with | .bool b => f b | _ => z) := by cases v <;> rfl
def V.onInt (v : V) (f : IntKind → E → β) (z : β) : β :=
  V.rec (motive_1 := fun _ => (IntKind → E → β) → β → β) (motive_2 := fun _ => Unit) (fun _ _ z => z) (fun k e f _ => f k e) (fun _ _ z => z) (fun _ _ z => z) (fun _ _ _ _ _ z => z) (fun _ z => z) (fun _ _ z => z) (fun _ _ _ _ _ _ z => z) (fun _ z => z) (fun _ _ _ _ z => z) (fun _ z => z) (fun _ _ _ z => z) (fun _ _ _ z => z) () (fun _ _ _ _ => ()) v f z
theorem V.onInt_eq (v : V) (f : IntKind → E → β) (z : β) : v.onInt f z = (match v with | .int k e => f k e | _ => z) := by cases v <;> rfl
def V.onStr (v : V) (f : S → β) (z : β) : β :=
  V.rec (motive_1 := fun _ => (S → β) → β → β) (motive_2 := fun _ => Unit) (fun _ _ z => z) (fun _ _ _ z => z) (fun s f _ => f s) (fun _ _ z => z) (fun _ _ _ _ _ z => z) (fun _ z => z) (fun _ _ z => z) (fun _ _ _ _ _ _ z => z) (fun _ z => z) (fun _ _ _ _ z => z) (fun _ z => z) (fun _ _ _ z => z) (fun _ _ _ z => z) () (fun _ _ _ _ => ()) v f z
theorem V.onStr_eq (v : V) (f : S → β) (z : β) : v.onStr f z = (match v with | .str s => f s | _ => z) := by cases v <;> rfl
def V.onPtr (v : V) (f : Option (Nat × Nat) → β) (z : β) : β :=
  V.rec (motive_1 := fun _ => (Option (Nat × Nat) → β) → β → β) (motive_2 := fun _ => Unit) (fun _ _ z => z) (fun _ _ _ z => z) (fun _ _ z => z) (fun o f _ => f o) (fun _ _ _ _ _ z => z) (fun _ z => z) (fun _ _ z => z) (fun _ _ _ _ _ _ z => z) (fun _ z => z) (fun _ _ _ _ z => z) (fun _ z => z) (fun _ _ _ z => z) (fun _ _ _ z => z) () (fun _ _ _ _ => ()) v f z
theorem V.onPtr_eq (v : V) (f : Option (Nat × Nat) → β) (z : β) : v.onPtr f z = (match v with | .ptr o => f o | _ => z) := by cases v <;> rfl
def V.onSlice (v : V) (f : Option (Nat × Nat) → Nat → Nat → Bool → β) (z : β) : β :=
  V.rec (motive_1 := fun _ => (Option (Nat × Nat) → Nat → Nat → Bool → β) → β → β) (motive_2 := fun _ => Unit) (fun _ _ z => z) (fun _ _ _ z => z) (fun _ _ z => z) (fun _ _ z => z) (fun o l c x f _ => f o l c x) (fun _ z => z) (fun _ _ z => z) (fun _ _ _ _ _ _ z => z) (fun _ z => z) (fun _ _ _ _ z => z) (fun _ z => z) (fun _ _ _ z => z) (fun _ _ _ z => z) () (fun _ _ _ _ => ()) v f z
theorem V.onSlice_eq (v : V) (f : Option (Nat × Nat) → Nat → Nat → Bool → β) (z : β) : v.onSlice f z = (match v with | .slice o l c x => f o l c x | _ => z) := by cases v <;> rfl
def V.onMap (v : V) (f : Option Nat → β) (z : β) : β :=
  V.rec (motive_1 := fun _ => (Option Nat → β) → β → β) (motive_2 := fun _ => Unit) (fun _ _ z => z) (fun _ _ _ z => z) (fun _ _ z => z) (fun _ _ z => z) (fun _ _ _ _ _ z => z) (fun _ z => z) (fun o f _ => f o) (fun _ _ _ _ _ _ z => z) (fun _ z => z) (fun _ _ _ _ z => z) (fun _ z => z) (fun _ _ _ z => z) (fun _ _ _ z => z) () (fun _ _ _ _ => ()) v f z
theorem V.onMap_eq (v : V) (f : Option Nat → β) (z : β) : v.onMap f z = (match v with | .map o => f o | _ => z) := by cases v <;> rfl
def V.onFunc (v : V) (f : Fn → List V → List V → β) (z : β) : β :=
  V.rec (motive_1 := fun _ => (Fn → List V → List V → β) → β → β) (motive_2 := fun _ => Unit) (fun _ _ z => z) (fun _ _ _ z => z) (fun _ _ z => z) (fun _ _ z => z) (fun _ _ _ _ _ z => z) (fun _ z => z) (fun _ _ z => z) (fun fn a c _ _ f _ => f fn a c) (fun _ z => z) (fun _ _ _ _ z => z) (fun _ z => z) (fun _ _ _ z => z) (fun _ _ _ z => z) () (fun _ _ _ _ => ()) v f z
theorem V.onFunc_eq (v : V) (f : Fn → List V → List V → β) (z : β) : v.onFunc f z = (match v with | .func fn a c => f fn a c | _ => z) := by cases v <;> rfl
def V.onIface (v : V) (f : TypeId → V → β) (z : β) : β :=
  V.rec (motive_1 := fun _ => (TypeId → V → β) → β → β) (motive_2 := fun _ => Unit) (fun _ _ z => z) (fun _ _ _ z => z) (fun _ _ z => z) (fun _ _ z => z) (fun _ _ _ _ _ z => z) (fun _ z => z) (fun _ _ z => z) (fun _ _ _ _ _ _ z => z) (fun _ z => z) (fun t v _ f _ => f t v) (fun _ z => z) (fun _ _ _ z => z) (fun _ _ _ z => z) () (fun _ _ _ _ => ()) v f z
theorem V.onIface_eq (v : V) (f : TypeId → V → β) (z : β) : v.onIface f z = (match v with | .iface t v => f t v | _ => z) := by cases v <;> rfl
def V.onAgg (v : V) (f : List V → β) (z : β) : β :=
  V.rec (motive_1 := fun _ => (List V → β) → β → β) (motive_2 := fun _ => Unit) (fun _ _ z => z) (fun _ _ _ z => z) (fun _ _ z => z) (fun _ _ z => z) (fun _ _ _ _ _ z => z) (fun _ z => z) (fun _ _ z => z) (fun _ _ _ _ _ _ z => z) (fun _ z => z) (fun _ _ _ _ z => z) (fun _ z => z) (fun cs _ f _ => f cs) (fun _ _ _ z => z) () (fun _ _ _ _ => ()) v f z
theorem V.onAgg_eq (v : V) (f : List V → β) (z : β) : v.onAgg f z = (match v with | .agg cs => f cs | _ => z) := by cases v <;> rfl
def V.onTuple (v : V) (f : List V → β) (z : β) : β :=
  V.rec (motive_1 := fun _ => (List V → β) → β → β) (motive_2 := fun _ => Unit) (fun _ _ z => z) (fun _ _ _ z => z) (fun _ _ z => z) (fun _ _ z => z) (fun _ _ _ _ _ z => z) (fun _ z => z) (fun _ _ z => z) (fun _ _ _ _ _ _ z => z) (fun _ z => z) (fun _ _ _ _ z => z) (fun _ z => z) (fun _ _ _ z => z) (fun vs _ f _ => f vs) () (fun _ _ _ _ => ()) v f z
theorem V.onTuple_eq (v : V) (f : List V → β) (z : β) : v.onTuple f z = (match v with | .tuple vs => f vs | _ => z) := by cases v <;> rfl

/-- A value, worked out to its head before it is handed on. -/
def seqV (v : V) (f : V → β) : β :=
  V.rec (motive_1 := fun _ => (V → β) → β) (motive_2 := fun _ => Unit) (fun b f => f (.bool b)) (fun k e f => f (.int k e)) (fun s f => f (.str s)) (fun o f => f (.ptr o)) (fun o l c x f => f (.slice o l c x)) (fun f => f .sliceE) (fun o f => f (.map o)) (fun fn a c _ _ f => f (.func fn a c)) (fun f => f .nilFunc) (fun t v _ f => f (.iface t v)) (fun f => f .nilIface) (fun cs _ f => f (.agg cs)) (fun vs _ f => f (.tuple vs)) () (fun _ _ _ _ => ()) v f
theorem seqV_eq (v : V) (f : V → β) : seqV v f = f v := by cases v <;> rfl
def seqH (h : Hp) (f : Hp → β) : β := Hp.rec (motive := fun _ => (Hp → β) → β) (fun sz tab f => f (.mk sz tab)) h f
theorem seqH_eq (h : Hp) (f : Hp → β) : seqH h f = f h := rfl
def seqL {α : Type} (l : List α) (f : List α → β) : β := List.rec (motive := fun _ => (List α → β) → β) (fun f => f .nil) (fun x l _ f => f (.cons x l)) l f
theorem seqL_eq {α : Type} (l : List α) (f : List α → β) : seqL l f = f l := by cases l <;> rfl
def seqS3 (fs : List (B × Bool)) (f : St → β) (h : Hp) : β := f (.mk h fs)
def seqS2 (h : Hp) (f : St → β) (fs : List (B × Bool)) : β := seqH h (seqS3 fs f)
def seqSt (st : St) (f : St → β) : β := St.rec (motive := fun _ => (St → β) → β) (fun h fs f => seqL fs (seqS2 h f)) st f
theorem seqSt_eq (st : St) (f : St → β) : seqSt st f = f st := by
  obtain ⟨h, fs⟩ := st
  show seqL fs (seqS2 h f) = _
  rw [seqL_eq]; rfl

/-! ### Options, truth values, terms -/
def onSome {α : Type} (o : Option α) (f : α → β) (z : β) : β := Option.rec (motive := fun _ => (α → β) → β → β) (fun _ z => z) (fun a f _ => f a) o f z
theorem onSome_eq {α : Type} (o : Option α) (f : α → β) (z : β) : onSome o f z = (match o with | some a => f a | none => z) := by cases o <;> rfl
def onB (b : Bool) (t e : β) : β := Bool.rec (motive := fun _ => β → β → β) (fun _ e => e) (fun t _ => t) b t e
theorem onB_eq (b : Bool) (t e : β) : onB b t e = (if b then t else e) := by cases b <;> rfl
def E.onLit (e : E) (f : Int → β) (z : β) : β :=
  E.rec (motive := fun _ => (Int → β) → β → β) (fun n f _ => f n) (fun _ _ z => z) (fun _ _ _ _ z => z) (fun _ _ _ _ _ z => z) (fun _ _ _ _ _ z => z) (fun _ _ _ _ _ z => z) (fun _ _ _ _ _ z => z) (fun _ _ _ _ _ z => z)
    (fun _ _ _ _ _ _ _ z => z) (fun _ _ _ _ _ _ z => z) (fun _ _ _ _ _ _ z => z) (fun _ _ _ _ _ _ _ _ z => z) (fun _ _ _ _ _ _ _ _ _ _ _ _ z => z) e f z
theorem E.onLit_eq (e : E) (f : Int → β) (z : β) : e.onLit f z = (match e with | .lit n => f n | _ => z) := by cases e <;> rfl
def E.two (x y : E) (f : Int → Int → β) (z : β) : β := x.onLit (fun m => y.onLit (f m) z) z
theorem E.two_eq (x y : E) (f : Int → Int → β) (z : β) : E.two x y f z = (match x, y with | .lit m, .lit n => f m n | _, _ => z) := by
  unfold E.two
  cases x <;> cases y <;> rfl
def B.onLit (b : B) (f : Bool → β) (z : β) : β :=
  B.rec (motive := fun _ => (Bool → β) → β → β) (fun b f _ => f b) (fun _ _ z => z) (fun _ _ _ _ z => z) (fun _ _ _ z => z) (fun _ _ _ _ _ z => z) (fun _ _ _ z => z) (fun _ _ _ _ _ z => z) (fun _ _ _ _ _ z => z) (fun _ _ _ _ _ _ _ z => z) b f z
theorem B.onLit_eq (b : B) (f : Bool → β) (z : β) : b.onLit f z = (match b with | .lit x => f x | _ => z) := by cases b <;> rfl
def S.onLit (s : S) (f : List UInt8 → β) (z : β) : β := S.rec (motive := fun _ => (List UInt8 → β) → β → β) (fun l f _ => f l) (fun _ _ z => z) (fun _ _ _ z => z) s f z
theorem S.onLit_eq (s : S) (f : List UInt8 → β) (z : β) : s.onLit f z = (match s with | .lit l => f l | _ => z) := by cases s <;> rfl

/-! ### Numbers -/
def kindN (k : IntKind) : Nat := IntKind.rec (motive := fun _ => Nat) 0 1 2 3 4 5 6 7 k
def keq (k k' : IntKind) : Bool := Nat.beq (kindN k) (kindN k')
theorem keq_eq (k k' : IntKind) : keq k k' = decide (k = k') := by cases k <;> cases k' <;> rfl
def maxN (k : IntKind) : Nat := IntKind.rec (motive := fun _ => Nat) 127 32767 2147483647 9223372036854775807 255 65535 4294967295 18446744073709551615 k
def negN (k : IntKind) : Nat := IntKind.rec (motive := fun _ => Nat) 128 32768 2147483648 9223372036854775808 0 0 0 0 k
def wrapZ (k : IntKind) (n : Int) : Int :=
  Int.rec (motive := fun _ => IntKind → Int) (fun a k => onB (Nat.ble a (maxN k)) (.ofNat a) (k.wrap (.ofNat a))) (fun a k => onB (Nat.blt a (negN k)) (.negSucc a) (k.wrap (.negSucc a))) n k
theorem wrapZ_eq (k : IntKind) (n : Int) : wrapZ k n = k.wrap n := by
  have hmax : (maxN k : Int) = k.max := by cases k <;> rfl
  have hmin : k.min = -(negN k : Int) := by cases k <;> rfl
  cases n with
  | ofNat a =>
    show onB (Nat.ble a (maxN k)) (Int.ofNat a) (k.wrap (.ofNat a)) = _
    rw [onB_eq]
    split
    · rename_i h
      rw [Nat.ble_eq] at h
      have h0 : k.min ≤ 0 := by rw [hmin]; omega
      rw [wrap_id k _ (by have : (0 : Int) ≤ Int.ofNat a := Int.natCast_nonneg a; omega) (by rw [← hmax]; exact Int.ofNat_le.2 h)]
    · rfl
  | negSucc a =>
    show onB (Nat.blt a (negN k)) (Int.negSucc a) (k.wrap (.negSucc a)) = _
    rw [onB_eq]
    split
    · rename_i h
      have h' : a < negN k := by have := h; simp [Nat.blt, Nat.ble_eq] at this; omega
      have e : Int.negSucc a = -((a : Int) + 1) := by rw [Int.negSucc_eq]
      have h0 : (0 : Int) ≤ k.max := by rw [← hmax]; omega
      rw [wrap_id k _ (by rw [hmin, e]; omega) (by rw [e]; omega)]
    · rfl
def addZ (m n : Int) : Int := Int.rec (motive := fun _ => Int → Int) (fun a n => Int.rec (motive := fun _ => Nat → Int) (fun b a => .ofNat (Nat.add a b)) (fun b a => Int.add (.ofNat a) (.negSucc b)) n a) (fun a n => Int.add (.negSucc a) n) m n
theorem addZ_eq (m n : Int) : addZ m n = m + n := by cases m <;> cases n <;> rfl
def subZ (m n : Int) : Int :=
  Int.rec (motive := fun _ => Int → Int) (fun a n => Int.rec (motive := fun _ => Nat → Int) (fun b a => onB (Nat.ble b a) (.ofNat (Nat.sub a b)) (Int.sub (.ofNat a) (.ofNat b))) (fun b a => .ofNat (Nat.add a (Nat.succ b))) n a) (fun a n => Int.sub (.negSucc a) n) m n
theorem subZ_eq (m n : Int) : subZ m n = m - n := by
  cases m with
  | ofNat a =>
    cases n with
    | ofNat b =>
      show onB (Nat.ble b a) (Int.ofNat (a - b)) (Int.ofNat a - Int.ofNat b) = _
      rw [onB_eq]
      split
      · rename_i h
        rw [Nat.ble_eq] at h
        show ((a - b : Nat) : Int) = (a : Int) - (b : Int)
        omega
      · rfl
    | negSucc b =>
      show ((a + (b + 1) : Nat) : Int) = (a : Int) - Int.negSucc b
      rw [Int.negSucc_eq]; omega
  | negSucc a => rfl
def mulZ (m n : Int) : Int := Int.rec (motive := fun _ => Int → Int) (fun a n => Int.rec (motive := fun _ => Nat → Int) (fun b a => .ofNat (Nat.mul a b)) (fun b a => Int.mul (.ofNat a) (.negSucc b)) n a) (fun a n => Int.mul (.negSucc a) n) m n
theorem mulZ_eq (m n : Int) : mulZ m n = m * n := by cases m <;> cases n <;> rfl
def eqZ (m n : Int) : Bool :=
  Int.rec (motive := fun _ => Int → Bool) (fun a n => Int.rec (motive := fun _ => Nat → Bool) (fun b a => Nat.beq a b) (fun _ _ => false) n a) (fun a n => Int.rec (motive := fun _ => Nat → Bool) (fun _ _ => false) (fun b a => Nat.beq a b) n a) m n
def ltZ (m n : Int) : Bool :=
  Int.rec (motive := fun _ => Int → Bool) (fun a n => Int.rec (motive := fun _ => Nat → Bool) (fun b a => Nat.blt a b) (fun _ _ => false) n a) (fun a n => Int.rec (motive := fun _ => Nat → Bool) (fun _ _ => true) (fun b a => Nat.blt b a) n a) m n
def notB (b : Bool) : Bool := Bool.rec (motive := fun _ => Bool) true false b
theorem notB_eq (b : Bool) : notB b = !b := by cases b <;> rfl
theorem eqZ_eq (m n : Int) : eqZ m n = (m == n) := by
  have hb : ∀ a b : Nat, Nat.beq a b = decide (a = b) := fun a b => by
    cases h : Nat.beq a b with
    | true => simp [Nat.eq_of_beq_eq_true h]
    | false => simp [Nat.ne_of_beq_eq_false h]
  cases m with
  | ofNat a =>
    cases n with
    | ofNat b => show Nat.beq a b = decide (Int.ofNat a = Int.ofNat b); rw [hb]; exact decide_eq_decide.2 (by simp only [Int.ofNat_eq_natCast]; omega)
    | negSucc b => show false = _; simp
  | negSucc a =>
    cases n with
    | ofNat b => show false = _; simp
    | negSucc b => show Nat.beq a b = _; rw [hb]; by_cases h : a = b <;> simp [h]
theorem ltZ_eq (m n : Int) : ltZ m n = decide (m < n) := by
  have hb : ∀ a b : Nat, Nat.blt a b = decide (a < b) := fun a b => by
    by_cases h : a < b
    · rw [blt_true h]; simp [h]
    · rw [blt_false h]; simp [h]
  cases m with
  | ofNat a =>
    cases n with
    | ofNat b => show Nat.blt a b = _; rw [hb]; simp
    | negSucc b => show false = _; symm; simp; rw [Int.negSucc_eq]; omega
  | negSucc a =>
    cases n with
    | ofNat b => show true = _; symm; simp; rw [Int.negSucc_eq]; omega
    | negSucc b => show Nat.blt b a = _; rw [hb]; exact decide_eq_decide.2 (by rw [Int.negSucc_eq, Int.negSucc_eq]; omega)
def cmpZ (op : BinOp) (m n : Int) : Bool :=
  BinOp.rec (motive := fun _ => Int → Int → Bool) (fun _ _ => false) (fun _ _ => false) (fun _ _ => false) (fun _ _ => false) (fun _ _ => false) (fun _ _ => false) (fun _ _ => false) (fun _ _ => false) (fun _ _ => false) (fun _ _ => false) (fun _ _ => false)
    eqZ (fun m n => notB (eqZ m n)) ltZ (fun m n => notB (ltZ n m)) (fun m n => ltZ n m) (fun m n => notB (ltZ m n)) op m n
theorem cmpZ_eq (op : BinOp) (m n : Int) : cmpZ op m n = cmpI op m n := by
  have e1 : (!decide (n < m)) = decide (m ≤ n) := by rw [← decide_not]; exact decide_eq_decide.2 (by omega)
  have e2 : (!decide (m < n)) = decide (n ≤ m) := by rw [← decide_not]; exact decide_eq_decide.2 (by omega)
  cases op
  case eql => exact eqZ_eq m n
  case neq => show notB (eqZ m n) = (m != n); rw [notB_eq, eqZ_eq]; rfl
  case lss => exact ltZ_eq m n
  case leq => show notB (ltZ n m) = decide (m ≤ n); rw [notB_eq, ltZ_eq, e1]
  case gtr => exact ltZ_eq n m
  case geq => show notB (ltZ m n) = decide (n ≤ m); rw [notB_eq, ltZ_eq, e2]
  all_goals rfl

/-! ### Trees of ways -/
def T.bindF {α γ : Type} (t : T α) (f : α → T γ) : T γ := T.rec (motive := fun _ => (α → T γ) → T γ) (fun a f => f a) (fun b _ _ t e f => .node b (t f) (e f)) (fun n _ => .fail n) t f
theorem T.bindF_eq {α γ : Type} (f : α → T γ) : ∀ t : T α, t.bindF f = t.bind f
  | .ret a => rfl
  | .node b t e => by
    show T.node b (t.bindF f) (e.bindF f) = _
    rw [T.bindF_eq f t, T.bindF_eq f e]; rfl
  | .fail n => rfl
/-- A test of what is known already. -/
def brF {γ : Type} (st : St) (b : B) (k : Bool → St → T γ) : T γ := b.onLit (fun x => k x st) (br st b k)
theorem brF_eq {γ : Type} (st : St) (b : B) (k : Bool → St → T γ) : brF st b k = br st b k := by
  unfold brF; rw [B.onLit_eq]; cases b <;> rfl
theorem br_bind {α γ : Type} (st : St) (b : B) (k : Bool → St → T α) (g : α → T γ) : (br st b k).bind g = br st b fun x s => (k x s).bind g := by
  unfold br
  split
  · rfl
  · split <;> rfl
  · split <;> rfl
end
end Go.Proofs.YtbobnbndbgpanaaGreat.Sx
