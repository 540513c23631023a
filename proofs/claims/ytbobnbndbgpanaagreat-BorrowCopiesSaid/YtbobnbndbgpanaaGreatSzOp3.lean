/- The executor's operations on numbers and tests. -/
import Derived.Test.YtbobnbndbgpanaaGreatSzOp2
namespace Go.Proofs.YtbobnbndbgpanaaGreat.Sx
open Go
set_option linter.unusedVariables false
set_option linter.unusedSimpArgs false
noncomputable section

section
variable {η : Env} {φ : Place} {W : World} {P : Program}

/-! ### Numbers -/
def E.add' : E → E → E := E.bin2 (· + ·) .add
def E.sub' : E → E → E := E.bin2 (· - ·) .sub
def E.mul' : E → E → E := E.bin2 (· * ·) .mul
def E.quo' : E → E → E := E.bin2 Int.tdiv .quo
def E.rem' : E → E → E := E.bin2 Int.tmod .rem
def E.bits' (op : BinOp) (k : IntKind) : E → E → E := E.bin2 (bitsI op k) (.bits op k)
def E.shl' (k : IntKind) : E → E → E := E.bin2 (fun a n => k.wrap (a * 2 ^ shN k n)) (.shl k)
def E.shr' (k : IntKind) : E → E → E := E.bin2 (fun a n => a.fdiv (2 ^ shN k n)) (.shr k)
@[simp] theorem E.add'_den (a b : E) : (E.add' a b).den η = a.den η + b.den η := E.bin2_den η _ _ (fun _ _ => rfl) a b
@[simp] theorem E.sub'_den (a b : E) : (E.sub' a b).den η = a.den η - b.den η := E.bin2_den η _ _ (fun _ _ => rfl) a b
@[simp] theorem E.mul'_den (a b : E) : (E.mul' a b).den η = a.den η * b.den η := E.bin2_den η _ _ (fun _ _ => rfl) a b
@[simp] theorem E.quo'_den (a b : E) : (E.quo' a b).den η = (a.den η).tdiv (b.den η) := E.bin2_den η _ _ (fun _ _ => rfl) a b
@[simp] theorem E.rem'_den (a b : E) : (E.rem' a b).den η = (a.den η).tmod (b.den η) := E.bin2_den η _ _ (fun _ _ => rfl) a b
@[simp] theorem E.bits'_den (op : BinOp) (k : IntKind) (a b : E) : (E.bits' op k a b).den η = bitsI op k (a.den η) (b.den η) := E.bin2_den η _ _ (fun _ _ => rfl) a b
@[simp] theorem E.shl'_den (k : IntKind) (a b : E) : (E.shl' k a b).den η = k.wrap (a.den η * 2 ^ shN k (b.den η)) := E.bin2_den η _ _ (fun _ _ => rfl) a b
@[simp] theorem E.shr'_den (k : IntKind) (a b : E) : (E.shr' k a b).den η = (a.den η).fdiv (2 ^ shN k (b.den η)) := E.bin2_den η _ _ (fun _ _ => rfl) a b

def forkGo (e : E) (k : Nat → St → T R) : (m j : Nat) → St → T R
  | 0, _, _ => .fail 40
  | m + 1, j, st => br st (B.cmp' .eql e (.lit j)) fun b st => if b then k j st else forkGo e k m (j + 1) st
def fork (st : St) (e : E) (n : Nat) (k : Nat → St → T R) : T R :=
  match e with
  | .lit z => if 0 ≤ z ∧ z < n then k z.toNat st else .fail 41
  | e => forkGo e k n 0 st
theorem forkGo_sel {e : E} {k : Nat → St → T R} {r : R} : ∀ (m j : Nat) (st : St), SR η φ st W → (forkGo e k m j st).sel η = some r →
    ∃ (i : Nat) (st' : St), e.den η = (i : Int) ∧ i < j + m ∧ (k i st').sel η = some r ∧ SR η φ st' W := by
  intro m
  induction m with
  | zero => intro j st _ h; simp [forkGo, T.sel] at h
  | succ m ih =>
    intro j st hs h
    unfold forkGo at h
    obtain ⟨st', h', hs'⟩ := br_sel hs h
    have hz : (B.cmp' .eql e (.lit j)).den η = (e.den η == (j : Int)) := by rw [B.cmp'_den]; rfl
    rw [hz] at h'
    by_cases he : e.den η = (j : Int)
    · simp [he] at h'; exact ⟨j, st', he, by omega, h', hs'⟩
    · simp [he] at h'
      obtain ⟨i, st2, h1, h2, h3, h4⟩ := ih (j + 1) st' hs' h'
      exact ⟨i, st2, h1, by omega, h3, h4⟩
theorem fork_sel {st : St} {e : E} {n : Nat} {k : Nat → St → T R} {r : R} (hs : SR η φ st W) (h : (fork st e n k).sel η = some r) :
    ∃ (i : Nat) (st' : St), e.den η = (i : Int) ∧ i < n ∧ (k i st').sel η = some r ∧ SR η φ st' W := by
  unfold fork at h
  split at h
  · rename_i z
    split at h
    · rename_i hz; exact ⟨z.toNat, st, by simp [E.den]; omega, by omega, h, hs⟩
    · simp [T.sel] at h
  · obtain ⟨i, st', h1, h2, h3, h4⟩ := forkGo_sel n 0 st hs h
    exact ⟨i, st', h1, by omega, h3, h4⟩

/-- A small part of a number: which one it is. -/
def andOp (st : St) (k : IntKind) (x y : E) : T R :=
  match y with
  | .lit m => if 0 < m ∧ m < 64 then fork st (E.bits' .and k x y) (m.toNat + 1) fun j st => .ret (.val (.int k (.lit j)) st) else .ret (.val (.int k (E.bits' .and k x y)) st)
  | _ => .ret (.val (.int k (E.bits' .and k x y)) st)
def intOp (st : St) (op : BinOp) (k : IntKind) (x y : E) : T R :=
  match op with
  | .add => .ret (.val (.int k (E.wrap' k (E.add' x y))) st)
  | .sub => .ret (.val (.int k (E.wrap' k (E.sub' x y))) st)
  | .mul => .ret (.val (.int k (E.wrap' k (E.mul' x y))) st)
  | .quo => br st (B.cmp' .eql y (.lit 0)) fun z st => if z then .fail 20 else .ret (.val (.int k (E.wrap' k (E.quo' x y))) st)
  | .rem => br st (B.cmp' .eql y (.lit 0)) fun z st => if z then .fail 20 else .ret (.val (.int k (E.rem' x y)) st)
  | .and => andOp st k x y
  | .or | .xor | .andNot => .ret (.val (.int k (E.bits' op k x y)) st)
  | .eql | .neq | .lss | .leq | .gtr | .geq => .ret (.val (.bool (B.cmp' op x y)) st)
  | _ => .fail 21
def shiftOp (st : St) (op : BinOp) (k : IntKind) (x y : E) : T R :=
  br st (B.cmp' .lss y (.lit 0)) fun z st => if z then .fail 22 else
    match op with
    | .shl => .ret (.val (.int k (E.shl' k x y)) st)
    | .shr => .ret (.val (.int k (E.shr' k x y)) st)
    | _ => .fail 22
def strOp (st : St) (op : BinOp) (x y : S) : T R :=
  match op, x, y with
  | .eql, _, _ => .ret (.val (.bool (B.seq' x y)) st)
  | .neq, _, _ => .ret (.val (.bool (B.not' (B.seq' x y))) st)
  | .add, .lit a, .lit b => if a.length + b.length < 2 ^ 40 then .ret (.val (.str (.lit (a ++ b))) st) else .fail 23
  | .lss, .lit a, .lit b => .ret (.val (.bool (.lit (Op.bytesLess a b))) st)
  | _, _, _ => .fail 23

/-- Does a comparison ask more than the values? -/
def guardB (P : Program) (t : TypeId) (x y : Operand) : V → V → Bool
  | .agg _, .agg _ => P.eqGuardType P.depth t
  | .nilIface, .nilIface => !(Region.isConst x || Region.isConst y)
  | _, _ => false
def guardW (P : Program) (t : TypeId) (x y : Operand) : Value → Value → Bool
  | .agg _, .agg _ => P.eqGuardType P.depth t
  | .nilIface, .nilIface => !(Region.isConst x || Region.isConst y)
  | _, _ => false
def plainW : Value → Value → Bool
  | .int _ _, .int _ _ => false
  | .float _ _, .float _ _ => false
  | .complex _ _ _, .complex _ _ _ => false
  | .string _, .string _ => false
  | _, _ => true
def opBin (P : Program) (a : Regs) (st : St) (op : BinOp) (t : TypeId) (x y : Operand) : T R :=
  match evalO a x, evalO a y with
  | some (.int k e), some (.int k' e') =>
    match op with
    | .shl | .shr => shiftOp st op k e e'
    | _ => if k = k' then intOp st op k e e' else .fail 24
  | some (.str s), some (.str s') => strOp st op s s'
  | some v, some v' =>
    match guardB P t x y v v', op with
    | true, _ => .fail 26
    | false, .eql => T.opt 26 ((eqV P 10000 t v v').map fun b => .val (.bool b) st)
    | false, .neq => T.opt 26 ((eqV P 10000 t v v').map fun b => .val (.bool (B.not' b)) st)
    | _, _ => .fail 26
  | _, _ => .fail 27

theorem andOp_ok {st : St} {k : IntKind} {x y : E} {r : R} {t : TypeId} (hs : SR η φ st W) (h : (andOp st k x y).sel η = some r) :
    ResF η φ W r ((do pure (.value (← binOp .and t (.int k (x.den η)) (.int k (y.den η)))) : Sem Next).run P W) := by
  have plain : ∀ r, (T.ret (R.val (.int k (E.bits' .and k x y)) st)).sel η = some r → ResF η φ W r ((do pure (.value (← binOp .and t (.int k (x.den η)) (.int k (y.den η)))) : Sem Next).run P W) := by
    intro r h
    simp only [T.sel, Option.some.injEq] at h; subst h
    refine ResF.here ?_ (VR.int k (E.bits' .and k x y)) hs; simp [binOp, Op.intBits, bitsI]
  unfold andOp at h
  split at h
  · rename_i m
    split at h
    · obtain ⟨i, st', h1, h2, h3, h4⟩ := fork_sel hs h
      simp only [T.sel, Option.some.injEq] at h3; subst h3
      refine ResF.here ?_ (VR.int k (.lit i)) h4
      have h5 : bitsI .and k (x.den η) (E.den η (.lit m)) = (i : Int) := by rw [← h1]; simp
      simp only [E.den]
      rw [← h5]
      simp [binOp, Op.intBits, bitsI, E.den]
    · exact plain r h
  · exact plain r h
theorem intOp_ok {st : St} {op : BinOp} {k : IntKind} {x y : E} {r : R} {t : TypeId} (hop : op ≠ .shl ∧ op ≠ .shr) (hs : SR η φ st W) (h : (intOp st op k x y).sel η = some r) :
    ResF η φ W r ((do pure (.value (← binOp op t (.int k (x.den η)) (.int k (y.den η)))) : Sem Next).run P W) := by
  have hz : (B.cmp' .eql y (.lit 0)).den η = (y.den η == 0) := by simp [cmpI, E.den]
  unfold intOp at h
  split at h
  all_goals try (simp only [T.sel, Option.some.injEq] at h; subst h)
  · (refine ResF.here ?_ (VR.int k (E.wrap' k (E.add' x y))) hs; simp [binOp, Op.intArith])
  · (refine ResF.here ?_ (VR.int k (E.wrap' k (E.sub' x y))) hs; simp [binOp, Op.intArith])
  · (refine ResF.here ?_ (VR.int k (E.wrap' k (E.mul' x y))) hs; simp [binOp, Op.intArith])
  · obtain ⟨st', h', hs'⟩ := br_sel hs h
    rw [hz] at h'
    by_cases hy : y.den η = 0
    · simp [hy, T.sel] at h'
    · simp [hy, T.sel] at h'; subst h'
      (refine ResF.here ?_ (VR.int k (E.wrap' k (E.quo' x y))) hs'; simp [binOp, Op.intDiv, hy])
  · obtain ⟨st', h', hs'⟩ := br_sel hs h
    rw [hz] at h'
    by_cases hy : y.den η = 0
    · simp [hy, T.sel] at h'
    · simp [hy, T.sel] at h'; subst h'
      (refine ResF.here ?_ (VR.int k (E.rem' x y)) hs'; simp [binOp, Op.intDiv, hy])
  · exact andOp_ok hs h
  · (refine ResF.here ?_ (VR.int k (E.bits' .or k x y)) hs; simp [binOp, Op.intBits, bitsI])
  · (refine ResF.here ?_ (VR.int k (E.bits' .xor k x y)) hs; simp [binOp, Op.intBits, bitsI])
  · (refine ResF.here ?_ (VR.int k (E.bits' .andNot k x y)) hs; simp [binOp, Op.intBits, bitsI])
  · (refine ResF.here ?_ (VR.bool (B.cmp' .eql x y)) hs; simp [binOp, Op.intCmp, cmpI])
  · (refine ResF.here ?_ (VR.bool (B.cmp' .neq x y)) hs; simp [binOp, Op.intCmp, cmpI])
  · (refine ResF.here ?_ (VR.bool (B.cmp' .lss x y)) hs; simp [binOp, Op.intCmp, cmpI])
  · (refine ResF.here ?_ (VR.bool (B.cmp' .leq x y)) hs; simp [binOp, Op.intCmp, cmpI])
  · (refine ResF.here ?_ (VR.bool (B.cmp' .gtr x y)) hs; simp [binOp, Op.intCmp, cmpI])
  · (refine ResF.here ?_ (VR.bool (B.cmp' .geq x y)) hs; simp [binOp, Op.intCmp, cmpI])
  · simp [T.sel] at h

theorem shiftOp_ok {st : St} {op : BinOp} {k k' : IntKind} {x y : E} {r : R} {t : TypeId} (hop : op = .shl ∨ op = .shr) (hs : SR η φ st W) (h : (shiftOp st op k x y).sel η = some r) :
    ResF η φ W r ((do pure (.value (← binOp op t (.int k (x.den η)) (.int k' (y.den η)))) : Sem Next).run P W) := by
  have hz : (B.cmp' .lss y (.lit 0)).den η = decide (y.den η < 0) := by rw [B.cmp'_den]; rfl
  unfold shiftOp at h
  obtain ⟨st', h', hs'⟩ := br_sel hs h
  rw [hz] at h'
  by_cases hy : y.den η < 0
  · simp [hy, T.sel] at h'
  · rcases hop with rfl | rfl
    · simp [hy, T.sel] at h'; subst h'
      (refine ResF.here ?_ (VR.int k (E.shl' k x y)) hs'; simp [binOp, Op.shift, hy, shN])
    · simp [hy, T.sel] at h'; subst h'
      (refine ResF.here ?_ (VR.int k (E.shr' k x y)) hs'; simp [binOp, Op.shift, hy, shN])

theorem lit_toList (l : List UInt8) : (S.den η (.lit l)).toList = l := by simp [S.den]
theorem lit_size (l : List UInt8) : (S.den η (.lit l)).size = l.length := by simp [S.den, ByteArray.size]
theorem strOp_ok {st : St} {op : BinOp} {x y : S} {r : R} {t : TypeId} (hs : SR η φ st W) (h : (strOp st op x y).sel η = some r) :
    ResF η φ W r ((do pure (.value (← binOp op t (.string (x.den η)) (.string (y.den η)))) : Sem Next).run P W) := by
  unfold strOp at h
  split at h
  · simp only [T.sel, Option.some.injEq] at h; subst h
    (refine ResF.here ?_ (VR.bool (B.seq' x y)) hs; simp [binOp, Op.stringOp])
  · simp only [T.sel, Option.some.injEq] at h; subst h
    (refine ResF.here ?_ (VR.bool (B.not' (B.seq' x y))) hs; simp [binOp, Op.stringOp])
  · rename_i a b
    split at h
    · rename_i hlen
      simp only [T.sel, Option.some.injEq] at h; subst h
      refine ResF.here (v' := .string (S.den η (.lit (a ++ b)))) ?_ (VR.str (.lit (a ++ b))) hs
      have h1 : ¬ (IntKind.i64.max < (((S.den η (.lit a)).size + (S.den η (.lit b)).size : Nat) : Int)) := by
        rw [lit_size, lit_size]; simp [IntKind.max, IntKind.bits, IntKind.signed]; omega
      have h2 : S.den η (.lit a) ++ S.den η (.lit b) = S.den η (.lit (a ++ b)) := by
        apply ByteArray.ext; simp [S.den]
      simp only [binOp, Op.stringOp, Sem.run_bind, gt_iff_lt, h1, if_false, Sem.run_pure, Result.andThen_ok, h2]
    · simp [T.sel] at h
  · rename_i a b
    simp only [T.sel, Option.some.injEq] at h; subst h
    (refine ResF.here ?_ (VR.bool (.lit (Op.bytesLess a b))) hs; simp [binOp, Op.stringOp, lit_toList, B.den])
  · simp [T.sel] at h

theorem run_guard_plain (op : BinOp) (t : TypeId) (x y : Operand) (a b : Value) (h : guardW P t x y a b = false) :
    (eqGuard op t x y a b).run P W = .ok () W := by
  unfold eqGuard
  cases a <;> cases b <;> simp_all [guardW] <;> (repeat' split) <;> first | rfl | simp_all [Region.isConst]

theorem equal_den {t : TypeId} {v v' : V} {x y : Value} {b : B} (h : eqV P 10000 t v v' = some b) (hx : VR η φ v x) (hy : VR η φ v' y) :
    (Op.equal t x y).run P W = .ok (b.den η) W := run_eqV 10000 t v v' b x y h hx hy

theorem binOp_eql {t : TypeId} {x y : Value} (h : plainW x y = true) :
    binOp .eql t x y = (do pure (.bool (← Op.equal t x y))) := by
  unfold binOp
  split <;> first | rfl | simp_all [plainW]
theorem binOp_neq {t : TypeId} {x y : Value} (h : plainW x y = true) :
    binOp .neq t x y = (do pure (.bool (!(← Op.equal t x y)))) := by
  unfold binOp
  split <;> first | rfl | simp_all [plainW]

end
end
end Go.Proofs.YtbobnbndbgpanaaGreat.Sx
