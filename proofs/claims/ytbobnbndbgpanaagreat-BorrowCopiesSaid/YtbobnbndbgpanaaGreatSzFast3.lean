/- Quicker forms for the kernel: one operation, operations in a row. -/
import Derived.Test.YtbobnbndbgpanaaGreatSzFast2
namespace Go.Proofs.YtbobnbndbgpanaaGreat.Sx
open Go
set_option linter.unusedVariables false
set_option linter.unusedSimpArgs false
noncomputable section

theorem T.bind_bind {α β γ : Type} (f : α → T β) (g : β → T γ) : ∀ t : T α, (t.bind f).bind g = t.bind fun a => (f a).bind g
  | .ret a => rfl
  | .node b t e => by simp only [T.bind]; rw [T.bind_bind f g t, T.bind_bind f g e]
  | .fail n => rfl
theorem T.bind_congr {α β : Type} {f g : α → T β} (h : ∀ a, f a = g a) (t : T α) : t.bind f = t.bind g := by rw [show f = g from funext h]

abbrev KV := V → St → T Ox
section
variable {P : Program} {call : CallF} {a : Regs} {st : St} {k kp : V → St → T Ox} {g : R → T Ox}

/-! ### A few more -/
def opNotF (a : Regs) (st : St) (op : UnOp) (x : Operand) (k : KV) (z : T Ox) : T Ox :=
  onO x a (fun v => v.onBool (fun b => b.onLit (fun t => UnOp.rec (motive := fun _ => T Ox) z z (seqB (notB t) fun r => k (.bool (.lit r)) st) z op) z) z) z
theorem opNotF_eq (hk : ∀ v s, k v s = g (.val v s)) (op : UnOp) (x : Operand) : opNotF a st op x k ((opUn a st op x).bind g) = (opUn a st op x).bind g := by
  unfold opNotF
  rw [onO_eq]
  split
  case h_2 => rfl
  rename_i v hx
  rw [V.onBool_eq]
  split
  case h_2 => rfl
  rename_i b
  rw [B.onLit_eq]
  split
  case h_2 => rfl
  rename_i t
  cases op <;> try rfl
  simp only
  rw [seqB_eq, hk, notB_eq]
  unfold opUn
  rw [hx]
  rfl
def opIfaceF (P : Program) (a : Regs) (st : St) (t : TypeId) (x : Operand) (k : KV) (z : T Ox) : T Ox := onB (P.concrete t) (onO x a (fun v => k (.iface t v) st) z) z
theorem opIfaceF_eq (hk : ∀ v s, k v s = g (.val v s)) (t : TypeId) (x : Operand) : opIfaceF P a st t x k ((opIface P a st t x).bind g) = (opIface P a st t x).bind g := by
  unfold opIfaceF
  rw [onB_eq]
  split
  case isFalse => rfl
  rename_i hc
  rw [onO_eq]
  split
  case h_2 => rfl
  rename_i v hx
  unfold opIface
  rw [hc, hx]
  exact hk _ _
def argsF (l : List Operand) (a : Regs) (k : List V → T Ox) (z : T Ox) : T Ox :=
  List.rec (motive := fun _ => Regs → (List V → T Ox) → T Ox → T Ox) (fun _ k _ => k .nil) (fun x _ ih a k z => onO x a (fun v => seqV v fun v => ih a (fun vs => k (.cons v vs)) z) z) l a k z
theorem argsF_eq (z : T Ox) : ∀ (l : List Operand) (k : List V → T Ox), argsF l a k z = (match evalOs a l with | some vs => k vs | none => z)
  | [], k => rfl
  | x :: l, k => by
    show onO x a (fun v => seqV v fun v => argsF l a (fun vs => k (.cons v vs)) z) z = _
    rw [onO_eq]
    unfold evalOs
    cases evalO a x with
    | none => rfl
    | some v =>
      simp only
      rw [seqV_eq, argsF_eq z l]
      cases evalOs a l <;> rfl
/-- Is it a slice or a text? -/
def lenOf (P : Program) (t : TypeId) : Option Bool :=
  match P.underlying t with
  | some (.slice _) => some true
  | some .string => some false
  | _ => none
def lenN {α : Type} (l : List α) : Nat := List.rec (motive := fun _ => Nat) 0 (fun _ _ n => Nat.succ n) l
theorem lenN_eq {α : Type} : ∀ l : List α, lenN l = l.length
  | [] => rfl
  | _ :: l => by show Nat.succ (lenN l) = _; rw [lenN_eq l]; rfl
def ty1 (l : List TypeId) (f : TypeId → T Ox) (z : T Ox) : T Ox := List.rec (motive := fun _ => T Ox) z (fun t l _ => List.rec (motive := fun _ => T Ox) (f t) (fun _ _ _ => z) l) l
def arg1 (l : List Operand) (f : Operand → T Ox) (z : T Ox) : T Ox := List.rec (motive := fun _ => T Ox) z (fun t l _ => List.rec (motive := fun _ => T Ox) (f t) (fun _ _ _ => z) l) l
def isLen (b : Builtin) : Bool := Builtin.rec (motive := fun _ => Bool) false false false false false false false false true false false false false false false false false false false false false false false false false false b
theorem isLen_eq {b : Builtin} (h : isLen b = true) : b = .len := by cases b <;> first | rfl | exact absurd h Bool.false_ne_true
def lenF (P : Program) (a : Regs) (st : St) (b : Builtin) (c : Call) (k : KV) (z : T Ox) : T Ox :=
  onB (isLen b) (ty1 c.argTypes.toList (fun t => arg1 c.args.toList (fun x => onO x a (fun v => onSome (lenOf P t) (fun s => onB s (v.onSlice (fun _ n _ _ => k (.int .i64 (.lit (.ofNat n))) st) z) (v.onStr (fun s => s.onLit (fun l => seqN (lenN l) fun n => k (.int .i64 (.lit (.ofNat n))) st) z) z)) z) z) z) z) z
theorem lenF_eq (hk : ∀ v s, k v s = g (.val v s)) (b : Builtin) (c : Call) : lenF P a st b c k ((opBuiltin P a st b c).bind g) = (opBuiltin P a st b c).bind g := by
  unfold lenF
  rw [onB_eq]
  split
  case isFalse => rfl
  rename_i hb
  have hb := isLen_eq hb
  subst hb
  unfold ty1
  cases ht : c.argTypes.toList with
  | nil => rfl
  | cons t l =>
    cases l with
    | cons _ _ => rfl
    | nil =>
      simp only
      unfold arg1
      cases hargs : c.args.toList with
      | nil => rfl
      | cons x l =>
        cases l with
        | cons _ _ => rfl
        | nil =>
          simp only
          rw [onO_eq]
          split
          case h_2 => rfl
          rename_i v hx
          rw [onSome_eq]
          split
          case h_2 => rfl
          rename_i s hs
          rw [onB_eq]
          unfold opBuiltin
          simp only [ht, hargs, evalOs, hx]
          unfold lenOf at hs
          split at hs
          · rename_i el hu
            injection hs with hs; subst hs
            simp only [if_true]
            rw [V.onSlice_eq, hu]
            split
            · exact hk _ _
            · rfl
          · rename_i hu
            injection hs with hs; subst hs
            simp only [Bool.false_eq_true, if_false]
            rw [V.onStr_eq, hu]
            split
            · rename_i s
              rw [S.onLit_eq]
              split
              · rw [seqN_eq, lenN_eq]; exact hk _ _
              · rfl
            · rfl
          · simp at hs

/-! ### One operation -/
/-- Those that leave memory as it is. -/
def opQ (op : Op) : Program → Regs → St → KV → T Ox → T Ox :=
  Op.rec (motive := fun _ => Program → Regs → St → KV → T Ox → T Ox)
    (fun x _ a st k _ => opMoveF a st x k) (fun x _ a st k _ => opMoveF a st x k) (fun c x y _ a st k _ => opPickF a st c x y k)
    (fun _ _ _ _ _ z => z) (fun _ _ _ _ _ _ z => z) (fun _ _ _ _ _ _ z => z) (fun _ _ _ _ _ _ _ z => z) (fun _ _ _ _ _ _ _ _ z => z)
    (fun t x P a st k _ => opLoadF P a st t x k) (fun _ _ _ _ _ _ _ z => z) (fun _ _ _ _ _ z => z) (fun _ _ _ _ _ z => z)
    (fun x _ a st k z => opNilF a st x k z) (fun op _ x y _ _ a st k z => opBinF a st op x y k z) (fun op _ x _ a st k z => opNotF a st op x k z)
    (fun s d x P a st k z => opConvF P a st s d x k z) (fun _ _ _ _ _ _ z => z) (fun t x P a st k z => opIfaceF P a st t x k z) (fun _ _ _ _ _ _ _ z => z) (fun _ _ _ _ _ _ z => z) (fun _ _ _ _ _ _ z => z) (fun _ _ _ _ _ _ _ z => z)
    (fun t x lo hi mx P a st k z => opSliceF P a st t x lo hi mx k z) (fun t x i P a st k _ => opFieldAddrF P a st t x i k) (fun t x i P a st k z => opFieldF P a st t x i k z) (fun t x i P a st k z => opIndexAddrF P a st t x i k z) (fun t x i P a st k z => opIndexF P a st t x i k z)
    (fun _ _ _ _ _ _ _ _ z => z) (fun _ _ _ _ _ _ _ _ z => z) (fun _ _ _ _ _ _ _ z => z) (fun _ _ _ _ _ _ _ _ z => z) (fun _ _ _ _ _ _ z => z) (fun _ _ _ _ _ _ z => z) (fun _ _ _ _ _ z => z) (fun _ _ _ _ _ _ _ _ z => z)
    (fun x i _ a st k _ => opExtractF a st x i k)
    (fun c P a st k z => Callee.rec (motive := fun _ => T Ox) (fun _ => z) (fun _ _ => z) (fun b => lenF P a st b c k z) c.callee)
    (fun _ _ _ _ _ z => z) (fun _ _ _ _ _ z => z) (fun _ _ _ _ _ z => z) (fun _ _ _ _ _ _ z => z) (fun _ _ _ _ _ _ _ z => z) (fun _ _ _ _ _ _ z => z) op
theorem opQ_eq (hk : ∀ v s, k v s = g (.val v s)) (o : Oper) : opQ o.op P a st k ((opF P a st o).bind g) = (opF P a st o).bind g := by
  have eF : ∀ op, o.op = op → opF P a st o = opF P a st { o with op := op } := by intro op h; subst h; rfl
  cases ho : o.op <;> try rfl
  case move => rw [eF _ ho]; exact opMoveF_eq hk _
  case assign => rw [eF _ ho]; exact opMoveF_eq hk _
  case pick => rw [eF _ ho]; exact opPickF_eq hk _ _ _
  case load => rw [eF _ ho]; exact opLoadF_eq hk _ _
  case nilCheck => rw [eF _ ho]; exact opNilF_eq hk _
  case binOp => rw [eF _ ho]; exact opBinF_eq hk _ _ _ _
  case unOp => rw [eF _ ho]; exact opNotF_eq hk _ _
  case convert => rw [eF _ ho]; exact opConvF_eq hk _ _ _
  case makeInterface => rw [eF _ ho]; exact opIfaceF_eq hk _ _
  case fieldAddr => rw [eF _ ho]; exact opFieldAddrF_eq hk _ _ _
  case field => rw [eF _ ho]; exact opFieldF_eq hk _ _ _
  case indexAddr => rw [eF _ ho]; exact opIndexAddrF_eq hk _ _ _
  case index => rw [eF _ ho]; exact opIndexF_eq hk _ _ _
  case slice => rw [eF _ ho]; exact opSliceF_eq hk _ _ _ _ _
  case extract => rw [eF _ ho]; exact opExtractF_eq hk _ _
  case call c =>
    obtain ⟨callee, args, tys⟩ := c
    cases callee with
    | value f => rfl
    | invoke r m => rfl
    | builtin b => rw [eF _ ho]; exact lenF_eq hk b _
def appF (l r : List V) : List V := List.rec (motive := fun _ => List V → List V) (fun r => r) (fun v _ ih r => .cons v (ih r)) l r
theorem appF_eq : ∀ l r : List V, appF l r = l ++ r
  | [], r => rfl
  | v :: l, r => by show List.cons v (appF l r) = _; rw [appF_eq l r]; rfl
def crK (kv kp : KV) (r : CR × St) : T Ox := Prod.rec (motive := fun _ => T Ox) (fun c s => CR.rec (motive := fun _ => T Ox) (fun v => kv v s) (fun v => kp v s) c) r
def bodyOf (P : Program) (g : FuncId) : Option Code :=
  match P.funcs[g]? with
  | some fn => fn.body
  | none => none
def callK (f : Operand) (args : List Operand) (P : Program) (call : CallF) (a : Regs) (st : St) (kv kp : KV) (z : T Ox) : T Ox :=
  onO f a (fun v => v.onFunc (fun fn first cap => Fn.rec (motive := fun _ => T Ox) (fun g => argsF args a (fun vs => onSome (bodyOf P g) (fun _ => (call g (appF (appF first vs) cap) st).bindF (crK kv kp)) z) z) (fun _ => z) (fun _ _ => z) (fun _ _ _ _ => z) (fun _ => z) fn) z) z
def storeK (k : KV) (s : St) : T Ox := seqSt s (k undefV)
def opK (op : Op) : Op → Program → CallF → Regs → St → KV → KV → T Ox → T Ox :=
  Op.rec (motive := fun _ => Op → Program → CallF → Regs → St → KV → KV → T Ox → T Ox)
    (fun _ op P _ a st k _ z => opQ op P a st k z) (fun _ op P _ a st k _ z => opQ op P a st k z) (fun _ _ _ op P _ a st k _ z => opQ op P a st k z)
    (fun _ _ _ _ _ _ _ _ z => z) (fun _ _ _ _ _ _ _ _ _ z => z) (fun _ _ op P _ a st k _ z => opQ op P a st k z) (fun _ _ _ _ _ _ _ _ _ _ z => z) (fun _ _ _ _ _ _ _ _ _ _ _ z => z)
    (fun _ _ op P _ a st k _ z => opQ op P a st k z) (fun t x y _ P _ a st k _ _ => opStoreF P a st t x y (storeK k) (.fail 8)) (fun _ _ _ _ _ _ _ _ z => z) (fun _ _ _ _ _ _ _ _ z => z)
    (fun _ op P _ a st k _ z => opQ op P a st k z) (fun _ _ _ _ _ op P _ a st k _ z => opQ op P a st k z) (fun _ _ _ op P _ a st k _ z => opQ op P a st k z)
    (fun _ _ _ op P _ a st k _ z => opQ op P a st k z) (fun _ _ _ _ _ _ _ _ _ z => z) (fun _ _ op P _ a st k _ z => opQ op P a st k z) (fun _ _ _ _ _ _ _ _ _ _ z => z) (fun _ _ _ _ _ _ _ _ _ z => z) (fun _ _ _ _ _ _ _ _ _ z => z) (fun _ _ _ _ _ _ _ _ _ _ z => z)
    (fun _ _ _ _ _ _ _ _ _ _ _ _ z => z) (fun _ _ _ op P _ a st k _ z => opQ op P a st k z) (fun _ _ _ op P _ a st k _ z => opQ op P a st k z) (fun _ _ _ op P _ a st k _ z => opQ op P a st k z) (fun _ _ _ _ _ _ _ _ _ _ z => z)
    (fun _ _ _ _ _ _ _ _ _ _ _ z => z) (fun _ _ _ _ _ _ _ _ _ _ _ z => z) (fun _ _ _ _ _ _ _ _ _ _ z => z) (fun _ _ _ _ _ _ _ _ _ _ _ z => z) (fun _ _ _ _ _ _ _ _ _ z => z) (fun _ _ _ _ _ _ _ _ _ z => z) (fun _ _ _ _ _ _ _ _ z => z) (fun _ _ _ _ _ _ _ _ _ _ _ z => z)
    (fun _ _ op P _ a st k _ z => opQ op P a st k z)
    (fun c op P call a st k kp z => Callee.rec (motive := fun _ => T Ox) (fun f => callK f c.args.toList P call a st k kp z) (fun _ _ => z) (fun b => onB (isLen b) (opQ op P a st k z) z) c.callee)
    (fun _ _ _ _ _ _ _ _ z => z) (fun _ _ _ _ _ _ _ _ z => z) (fun _ _ _ _ _ _ _ _ z => z) (fun _ _ _ _ _ _ _ _ _ z => z) (fun _ _ _ _ _ _ _ _ _ _ z => z) (fun _ _ _ _ _ _ _ _ _ z => z) op
def resW (g : W1 → T Ox) (call : CallF) (r : R) : T Ox :=
  match r with
  | .val v st => g (.val v st)
  | .skip st => g (.val undefV st)
  | .enter f args st => (call f args st).bind (crK (fun v s => g (.val v s)) (fun v s => g (.pan v s)))
  | .defer f args st => g (.put f args st)
  | .panic v st => g (.pan v st)
  | .recover _ => .fail 69
theorem oneE_bind (g : W1 → T Ox) (o : Oper) : (oneE P call a st o).bind g = (opE P a st o).bind (resW g call) := by
  unfold oneE
  rw [T.bind_bind]
  refine T.bind_congr (fun r => ?_) _
  cases r with
  | enter f args st =>
    simp only [resW]
    rw [T.bind_bind]
    refine T.bind_congr (fun r => ?_) _
    obtain ⟨c, s⟩ := r
    cases c <;> rfl
  | _ => rfl
theorem opK_eq {g : W1 → T Ox} (hk : ∀ v s, k v s = g (.val v s)) (hp : ∀ v s, kp v s = g (.pan v s)) (o : Oper) : opK o.op o.op P call a st k kp ((oneE P call a st o).bind g) = (oneE P call a st o).bind g := by
  have hk' : ∀ v s, k v s = resW g call (.val v s) := hk
  have hq := opQ_eq (P := P) (a := a) (st := st) hk' o
  cases ho : o.op <;> rw [ho] at hq <;> try rfl
  case store t x y =>
    rw [oneE_bind]
    have e : opE P a st o = opStore P a st t x y := by unfold opE kindOf opX; rw [ho]
    rw [e]
    exact opStoreF_eq (g := resW g call) (f := storeK k) (fun s => by unfold storeK; rw [seqSt_eq]; exact hk _ _) t x y
  case call c =>
    obtain ⟨callee, args, tys⟩ := c
    cases callee with
    | value f =>
      show callK f args.toList P call a st k kp _ = _
      rw [oneE_bind]
      have e : opE P a st o = opCall P a st ⟨.value f, args, tys⟩ := by unfold opE kindOf opX; rw [ho]
      rw [e]
      unfold callK
      rw [onO_eq]
      split
      case h_2 => rfl
      rename_i v hv
      rw [V.onFunc_eq]
      split
      case h_2 => rfl
      rename_i fn first cap
      cases fn <;> try rfl
      rename_i gf
      simp only
      rw [argsF_eq]
      split
      case h_2 => rfl
      rename_i vs hvs
      rw [onSome_eq]
      split
      case h_2 => rfl
      rename_i body hb
      unfold bodyOf at hb
      split at hb
      case h_2 => simp at hb
      rename_i fn hfn
      have e2 : opCall P a st ⟨.value f, args, tys⟩ = .ret (.enter gf (first ++ vs ++ cap) st) := by
        unfold opCall; simp only [hv, hvs, hfn, hb]
      rw [e2, T.bindF_eq, appF_eq, appF_eq]
      simp only [T.bind, resW]
      refine T.bind_congr (fun r => ?_) _
      obtain ⟨c, s⟩ := r
      cases c with
      | ret v => exact hk _ _
      | pan v => exact hp _ _
    | invoke r m => rfl
    | builtin b =>
      show onB (isLen b) _ _ = _
      rw [onB_eq]
      split
      · rename_i hb
        have hb := isLen_eq hb
        subst hb
        rw [oneE_bind]
        have e : opE P a st o = opF P a st o := by unfold opE kindOf; rw [ho]
        rw [e]; exact hq
      · rfl
  all_goals
    rw [oneE_bind]
    have e : opE P a st o = opF P a st o := by unfold opE kindOf; rw [ho]
    rw [e]
    exact hq
end
end
end Go.Proofs.YtbobnbndbgpanaaGreat.Sx
