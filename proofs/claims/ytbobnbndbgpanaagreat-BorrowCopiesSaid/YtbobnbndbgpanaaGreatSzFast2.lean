/- Quicker forms for the kernel: operations. Each is the slow form, with what follows it. -/
import Derived.Test.YtbobnbndbgpanaaGreatSzFast1
namespace Go.Proofs.YtbobnbndbgpanaaGreat.Sx
open Go
set_option linter.unusedVariables false
set_option linter.unusedSimpArgs false
noncomputable section
variable {γ : Type}

theorem blt_lt {a b : Nat} (h : Nat.blt a b = true) : a < b := by simp [Nat.blt, Nat.ble_eq] at h; omega

def lenN' {α : Type} (l : List α) : Nat := List.rec (motive := fun _ => Nat) 0 (fun _ _ n => Nat.succ n) l
theorem lenN'_eq {α : Type} : ∀ l : List α, lenN' l = l.length
  | [] => rfl
  | _ :: l => by show Nat.succ (lenN' l) = _; rw [lenN'_eq l]; rfl
def onO (x : Operand) (a : Regs) (k : V → T γ) (z : T γ) : T γ :=
  Operand.rec (motive := fun _ => Regs → (V → T γ) → T γ → T γ) (fun t a k _ => k (Regs.get a t)) (fun v _ k z => onSome (ofVal v) k z) (fun _ _ _ z => z) (fun f _ k _ => k (.func (.func f) [] [])) x a k z
theorem onO_eq (x : Operand) (a : Regs) (k : V → T γ) (z : T γ) : onO x a k z = (match evalO a x with | some v => k v | none => z) := by
  cases x with
  | const v =>
    show onSome (ofVal v) k z = (match ofVal v with | some v => k v | none => z)
    rw [onSome_eq]; cases ofVal v <;> rfl
  | _ => rfl
def onP (v : V) (f : Nat → Nat → T γ) (z : T γ) : T γ := v.onPtr (fun p => onSome p (fun q => Prod.rec (motive := fun _ => (Nat → Nat → T γ) → T γ) (fun k o f => f k o) q f) z) z
theorem onP_eq (v : V) (f : Nat → Nat → T γ) (z : T γ) : onP v f z = (match v with | .ptr (some (k, o)) => f k o | _ => z) := by
  unfold onP
  rw [V.onPtr_eq]
  cases v with
  | ptr p => cases p with
    | none => rfl
    | some q => rfl
  | _ => rfl
def onCells (st : St) (k : Nat) (f : Arr → T γ) (z : T γ) : T γ :=
  onSome (Hp.get st.heap k) (fun o => O.rec (motive := fun _ => (Arr → T γ) → T γ → T γ) (fun cs _ _ f _ => f cs) (fun _ _ _ z => z) (fun _ z => z) (fun _ _ _ _ _ z => z) (fun _ _ z => z) o f z) z
theorem onCells_eq (st : St) (k : Nat) (f : Arr → T γ) (z : T γ) : onCells st k f z = (match st.cells k with | some cs => f cs | none => z) := by
  unfold onCells St.cells
  rw [onSome_eq]
  cases h : Hp.get st.heap k with
  | none => rfl
  | some o => cases o <;> rfl

/-- A number, worked out before it is handed on. -/
def seqN (n : Nat) (f : Nat → T γ) : T γ := Nat.rec (motive := fun _ => (Nat → T γ) → T γ) (fun f => f 0) (fun m _ f => f (Nat.succ m)) n f
theorem seqN_eq (n : Nat) (f : Nat → T γ) : seqN n f = f n := by cases n <;> rfl
def seqI (n : Int) (f : Int → T γ) : T γ := Int.rec (motive := fun _ => (Int → T γ) → T γ) (fun a f => seqN a (fun a => f (.ofNat a))) (fun a f => seqN a (fun a => f (.negSucc a))) n f
theorem seqI_eq (n : Int) (f : Int → T γ) : seqI n f = f n := by cases n <;> exact seqN_eq _ _
def seqB (b : Bool) (f : Bool → T γ) : T γ := onB b (f true) (f false)
theorem seqB_eq (b : Bool) (f : Bool → T γ) : seqB b f = f b := by cases b <;> rfl

section
variable {P : Program} {a : Regs} {st : St} {k : V → St → T γ} {g : R → T γ}

/-! ### move -/
def opMoveF (a : Regs) (st : St) (x : Operand) (k : V → St → T γ) : T γ := onO x a (fun v => k v st) (.fail 1)
theorem opMoveF_eq (hk : ∀ v s, k v s = g (.val v s)) (x : Operand) : opMoveF a st x k = (opMove a st x).bind g := by
  unfold opMoveF opMove
  rw [onO_eq]
  cases evalO a x with
  | none => rfl
  | some v => exact hk v st
def opPickF (a : Regs) (st : St) (c x y : Operand) (k : V → St → T γ) : T γ :=
  onO c a (fun v => v.onBool (fun b => brF st b fun t st => onB t (opMoveF a st x k) (opMoveF a st y k)) (.fail 2)) (.fail 2)
theorem opPickF_eq (hk : ∀ v s, k v s = g (.val v s)) (c x y : Operand) : opPickF a st c x y k = (opPick a st c x y).bind g := by
  unfold opPickF opPick
  rw [onO_eq]
  cases evalO a c with
  | none => rfl
  | some v =>
    simp only
    rw [V.onBool_eq]
    cases v <;> try rfl
    simp only
    rw [brF_eq, br_bind]
    congr 1
    funext t s
    rw [onB_eq, opMoveF_eq hk, opMoveF_eq hk]
    cases t <;> rfl

/-! ### load, store -/
def loadK (P : Program) (st : St) (t : TypeId) (kk o : Nat) (k : V → T γ) (z : T γ) : T γ :=
  onSome (aggOf P t) (fun b => onB b (onSome (szOf P t) (fun n => onCells st kk (fun cs => onB (Nat.ble (Nat.add o n) cs.len) (k (.agg (cs.sub o n))) z) z) z) (onCells st kk (fun cs => onSome (cs.get o) k z) z)) z
theorem loadK_eq (t : TypeId) (kk o : Nat) (k : V → T γ) (z : T γ) : loadK P st t kk o k z = (match loadV P st t kk o with | some v => k v | none => z) := by
  unfold loadK loadV
  rw [onSome_eq]
  cases aggOf P t with
  | none => rfl
  | some b =>
    simp only
    rw [onB_eq]
    cases b with
    | true =>
      simp only [if_true]
      rw [onSome_eq]
      cases szOf P t with
      | none => rfl
      | some n =>
        simp only
        rw [onCells_eq]
        cases st.cells kk with
        | none => rfl
        | some cs =>
          simp only
          rw [onB_eq]
          by_cases h : o + n ≤ cs.len
          · rw [if_pos (show Nat.ble (Nat.add o n) cs.len = true from ble_true h), if_pos h]
          · rw [if_neg (by rw [show Nat.ble (Nat.add o n) cs.len = false from ble_false h]; simp), if_neg h]
    | false =>
      simp only [Bool.false_eq_true, if_false]
      rw [onCells_eq]
      cases st.cells kk with
      | none => cases szOf P t <;> rfl
      | some cs =>
        simp only
        rw [onSome_eq]
        cases szOf P t <;> cases cs.get o <;> rfl
def opLoadF (P : Program) (a : Regs) (st : St) (t : TypeId) (x : Operand) (k : V → St → T γ) : T γ :=
  onO x a (fun v => onP v (fun kk o => loadK P st t kk o (fun v => k v st) (.fail 5)) (.fail 6)) (.fail 6)
theorem opLoadF_eq (hk : ∀ v s, k v s = g (.val v s)) (t : TypeId) (x : Operand) : opLoadF P a st t x k = (opLoad P a st t x).bind g := by
  unfold opLoadF opLoad
  rw [onO_eq]
  cases evalO a x with
  | none => rfl
  | some v =>
    simp only
    rw [onP_eq]
    cases v with
    | ptr p =>
      cases p with
      | none => rfl
      | some q =>
        simp only
        rw [loadK_eq]
        cases loadV P st t q.1 q.2 with
        | none => rfl
        | some v => exact hk v st
    | _ => rfl
/-- Do the cells stand for one cell each? -/
def allOne (l : List V) : Bool := List.rec (motive := fun _ => Bool) true (fun v _ ih => v.onAgg (fun _ => false) (v.onTuple (fun _ => false) ih)) l
theorem allOne_eq : ∀ l : List V, allOne l = l.all V.one
  | [] => rfl
  | v :: l => by
    show v.onAgg (fun _ => false) (v.onTuple (fun _ => false) (allOne l)) = _
    rw [allOne_eq l, V.onAgg_eq, V.onTuple_eq]
    cases v <;> simp [V.one]
def cellsV (v : V) : List V := v.onAgg (fun cs => cs) (.cons v .nil)
theorem cellsV_eq (v : V) : cellsV v = v.cells := by unfold cellsV; rw [V.onAgg_eq]; cases v <;> rfl
def storeF (st : St) (kk i : Nat) (vs : List V) (f : St → T γ) (z : T γ) : T γ :=
  onSome (Hp.get st.heap kk) (fun o => O.rec (motive := fun _ => T γ → T γ)
    (fun cs e ps z => onB (allOne vs) (onSome (cs.lay i vs) (fun cs' => f (.mk (Hp.set (List.rec (motive := fun _ => Hp) st.heap (fun _ _ _ => kill (ps.filter (· != kk)) st.heap) ps) kk (.cells cs' e [])) st.facts)) z) z)
    (fun _ _ z => z) (fun z => z) (fun _ _ _ _ z => z) (fun _ z => z) o z) z
theorem storeF_eq (kk i : Nat) (vs : List V) (f : St → T γ) (z : T γ) : storeF st kk i vs f z = (match st.store kk i vs with | some s => f s | none => z) := by
  unfold storeF St.store
  rw [onSome_eq]
  cases h : Hp.get st.heap kk with
  | none => rfl
  | some o =>
    cases o with
    | map es c => rfl
    | dead => rfl
    | iter _ _ _ _ => rfl
    | pmap _ => rfl
    | cells cs e ps =>
      simp only
      rw [onB_eq, allOne_eq]
      have hk : (List.rec (motive := fun _ => Hp) st.heap (fun _ _ _ => kill (ps.filter (· != kk)) st.heap) ps : Hp) = kill (ps.filter (· != kk)) st.heap := by
        cases ps with
        | nil => rfl
        | cons p ps => rfl
      cases vs.all V.one with
      | false => rfl
      | true =>
        simp only [if_true]
        rw [onSome_eq, hk]
        cases cs.lay i vs with
        | none => rfl
        | some cs' => rfl
def opStoreF (P : Program) (a : Regs) (st : St) (t : TypeId) (x y : Operand) (f : St → T γ) (z : T γ) : T γ :=
  onO x a (fun p => onP p (fun kk o => onO y a (fun v => seqV v fun v => onSome (szOf P t) (fun n => onB (Nat.beq (len (cellsV v)) n) (storeF st kk o (cellsV v) f (.fail 7)) z) z) z) z) z
theorem opStoreF_eq {f : St → T γ} (hk : ∀ s, f s = g (.skip s)) (t : TypeId) (x y : Operand) : opStoreF P a st t x y f (.fail 8) = (opStore P a st t x y).bind g := by
  unfold opStoreF opStore
  rw [onO_eq]
  cases evalO a x with
  | none => rfl
  | some p =>
    simp only
    rw [onP_eq]
    cases p with
    | ptr q =>
      cases q with
      | none => rfl
      | some q =>
        simp only
        rw [onO_eq]
        cases evalO a y with
        | none => rfl
        | some v =>
          simp only
          rw [seqV_eq, onSome_eq]
          cases szOf P t with
          | none => rfl
          | some n =>
            simp only
            rw [onB_eq, cellsV_eq, len_eq]
            by_cases h : v.cells.length = n
            · rw [if_pos (by rw [h]; exact Nat.beq_refl n), if_pos h, storeF_eq]
              cases st.store q.1 q.2 v.cells with
              | none => rfl
              | some s => exact hk s
            · rw [if_neg h, if_neg (fun e => h (Nat.eq_of_beq_eq_true e))]; rfl
    | _ => rfl

/-! ### Addresses -/
def faddrOf (P : Program) (t : TypeId) (i : Nat) : Option Nat :=
  match P.underlying t with
  | some (.struct fields) => match fields[i]? with
    | some f => match szOf P f.type with
      | some (_ + 1) => some f.offset
      | _ => none
    | none => none
  | _ => none
def opFieldAddrF (P : Program) (a : Regs) (st : St) (t : TypeId) (x : Operand) (i : Nat) (k : V → St → T γ) : T γ :=
  onO x a (fun v => onP v (fun kk o => onSome (faddrOf P t i) (fun off => seqN (Nat.add o off) (fun r => k (.ptr (some (kk, r))) st)) (.fail 11)) (.fail 11)) (.fail 11)
theorem opFieldAddrF_eq (hk : ∀ v s, k v s = g (.val v s)) (t : TypeId) (x : Operand) (i : Nat) : opFieldAddrF P a st t x i k = (opFieldAddr P a st t x i).bind g := by
  unfold opFieldAddrF opFieldAddr
  rw [onO_eq]
  cases evalO a x with
  | none => cases P.underlying t with
    | none => rfl
    | some d => cases d <;> rfl
  | some v =>
    simp only
    rw [onP_eq]
    cases v with
    | ptr p =>
      cases p with
      | none => cases P.underlying t with
        | none => rfl
        | some d => cases d <;> rfl
      | some q =>
        simp only
        rw [onSome_eq]
        unfold faddrOf
        cases P.underlying t with
        | none => rfl
        | some d =>
          cases d with
          | struct fields =>
            simp only
            cases fields[i]? with
            | none => rfl
            | some f =>
              simp only
              cases szOf P f.type with
              | none => rfl
              | some n => cases n with
                | zero => rfl
                | succ n => simp only; rw [seqN_eq]; exact hk _ _
          | _ => rfl
    | _ => cases P.underlying t with
      | none => rfl
      | some d => cases d <;> rfl
def litN (e : E) (f : Nat → T γ) (z : T γ) : T γ := e.onLit (fun n => Int.rec (motive := fun _ => (Nat → T γ) → T γ → T γ) (fun j f _ => f j) (fun _ _ z => z) n f z) z
/-- How long an array is, or that it is a slice, and how many cells an element has. -/
def idxOf (P : Program) (t : TypeId) : Option (Option Nat × Nat) :=
  match P.underlying t with
  | some (.array n elem) => (szOf P elem).map fun sz => (some n, sz)
  | some (.slice elem) => (szOf P elem).map fun sz => (none, sz)
  | _ => none
def opIndexAddrF (P : Program) (a : Regs) (st : St) (t : TypeId) (x i : Operand) (k : V → St → T γ) (z : T γ) : T γ :=
  onO i a (fun iv => iv.onInt (fun _ e => litN e (fun j => onO x a (fun v => onSome (idxOf P t) (fun d => Prod.rec (motive := fun _ => T γ) (fun n sz => Option.rec (motive := fun _ => T γ)
      (v.onSlice (fun p len _ _ => onSome p (fun q => Prod.rec (motive := fun _ => T γ) (fun kk o => onB (Nat.blt j len) (seqN (Nat.add o (Nat.mul j sz)) (fun r => k (.ptr (some (kk, r))) st)) z) q) z) z)
      (fun n => onP v (fun kk o => onB (Nat.blt j n) (seqN (Nat.add o (Nat.mul j sz)) (fun r => k (.ptr (some (kk, r))) st)) z) z) n) d) z) z) z) z) z
theorem opIndexAddrF_eq (hk : ∀ v s, k v s = g (.val v s)) (t : TypeId) (x i : Operand) : opIndexAddrF P a st t x i k ((opIndexAddr P a st t x i).bind g) = (opIndexAddr P a st t x i).bind g := by
  unfold opIndexAddrF
  rw [onO_eq]
  split
  case h_2 => rfl
  rename_i iv hi
  rw [V.onInt_eq]
  split
  case h_2 => rfl
  rename_i kk0 e
  unfold litN
  rw [E.onLit_eq]
  split
  case h_2 => rfl
  rename_i n
  cases n with
  | negSucc n => rfl
  | ofNat j =>
    simp only
    rw [onO_eq]
    split
    case h_2 => rfl
    rename_i v hx
    rw [onSome_eq]
    split
    case h_2 => rfl
    rename_i d hd
    obtain ⟨n, sz⟩ := d
    unfold idxOf at hd
    split at hd
    · rename_i len elem hu
      cases hsz : szOf P elem with
      | none => rw [hsz] at hd; simp at hd
      | some sz' =>
        rw [hsz] at hd
        simp at hd; obtain ⟨rfl, rfl⟩ := hd
        simp only
        rw [onP_eq]
        split
        case h_2 => rfl
        rename_i kk o
        rw [onB_eq]
        split
        case isFalse => rfl
        rename_i hlt
        have hlt' : j < len := blt_lt hlt
        unfold opIndexAddr
        rw [hu, hx, hi]
        simp only [hsz, fork]
        rw [if_pos ⟨Int.natCast_nonneg j, Int.ofNat_lt.2 hlt'⟩, seqN_eq]
        exact hk _ _
    · rename_i elem hu
      cases hsz : szOf P elem with
      | none => rw [hsz] at hd; simp at hd
      | some sz' =>
        rw [hsz] at hd
        simp at hd; obtain ⟨rfl, rfl⟩ := hd
        simp only
        rw [V.onSlice_eq]
        split
        case h_2 => rfl
        rename_i p len c ex
        rw [onSome_eq]
        split
        case h_2 => rfl
        rename_i q
        obtain ⟨kk, o⟩ := q
        simp only
        rw [onB_eq]
        split
        case isFalse => rfl
        rename_i hlt
        have hlt' : j < len := blt_lt hlt
        unfold opIndexAddr
        rw [hu, hx, hi]
        simp only [hsz, fork]
        rw [if_pos ⟨Int.natCast_nonneg j, Int.ofNat_lt.2 hlt'⟩, seqN_eq]
        exact hk _ _
    · simp at hd

/-! ### Numbers and tests -/
def addK (st : St) (k : IntKind) (m n : Int) (f : V → St → T γ) (_ : T γ) : T γ := seqI (wrapZ k (addZ m n)) (fun r => f (.int k (.lit r)) st)
def subK (st : St) (k : IntKind) (m n : Int) (f : V → St → T γ) (_ : T γ) : T γ := seqI (wrapZ k (subZ m n)) (fun r => f (.int k (.lit r)) st)
def mulK (st : St) (k : IntKind) (m n : Int) (f : V → St → T γ) (_ : T γ) : T γ := seqI (wrapZ k (mulZ m n)) (fun r => f (.int k (.lit r)) st)
def noK (_ : St) (_ : IntKind) (_ _ : Int) (_ : V → St → T γ) (z : T γ) : T γ := z
def cmpK (op : BinOp) (st : St) (_ : IntKind) (m n : Int) (f : V → St → T γ) (_ : T γ) : T γ := seqB (cmpZ op m n) (fun r => f (.bool (.lit r)) st)
def intK (st : St) (op : BinOp) (k : IntKind) (m n : Int) (f : V → St → T γ) (z : T γ) : T γ :=
  BinOp.rec (motive := fun _ => St → IntKind → Int → Int → (V → St → T γ) → T γ → T γ) addK subK mulK noK noK noK noK noK noK noK noK
    (cmpK .eql) (cmpK .neq) (cmpK .lss) (cmpK .leq) (cmpK .gtr) (cmpK .geq) op st k m n f z
def bin4 (st : St) (op : BinOp) (k : IntKind) (m : Int) (f : V → St → T γ) (z : T γ) (k' : IntKind) (e' : E) : T γ := e'.onLit (fun n => onB (keq k k') (intK st op k m n f z) z) z
def bin3 (a : Regs) (st : St) (op : BinOp) (y : Operand) (f : V → St → T γ) (z : T γ) (k : IntKind) (m : Int) : T γ := onO y a (fun w => w.onInt (bin4 st op k m f z) z) z
def bin2 (a : Regs) (st : St) (op : BinOp) (y : Operand) (f : V → St → T γ) (z : T γ) (k : IntKind) (e : E) : T γ := e.onLit (bin3 a st op y f z k) z
/-- Are two texts alike? -/
def eqL : List UInt8 → List UInt8 → Bool :=
  List.rec (motive := fun _ => List UInt8 → Bool) (fun l' => List.rec (motive := fun _ => Bool) true (fun _ _ _ => false) l')
    (fun x _ ih l' => List.rec (motive := fun _ => Bool) false (fun y ys _ => onB (Nat.beq x.toNat y.toNat) (ih ys) false) l')
theorem eqL_eq : ∀ l l' : List UInt8, eqL l l' = (l == l')
  | [], [] => rfl
  | [], _ :: _ => rfl
  | _ :: _, [] => rfl
  | x :: l, y :: l' => by
    show onB (Nat.beq x.toNat y.toNat) (eqL l l') false = _
    rw [onB_eq, eqL_eq l l']
    by_cases h : x = y
    · subst h; rw [if_pos (Nat.beq_refl _)]; simp
    · have hn : Nat.beq x.toNat y.toNat = false := by
        cases e : Nat.beq x.toNat y.toNat with
        | false => rfl
        | true => exact absurd (UInt8.toNat_inj.1 (Nat.eq_of_beq_eq_true e)) h
      rw [hn]; simp [h]
def strEq (l : List UInt8) (st : St) (f : V → St → T γ) (l' : List UInt8) : T γ := seqB (eqL l l') (fun r => f (.bool (.lit r)) st)
def strNe (l : List UInt8) (st : St) (f : V → St → T γ) (l' : List UInt8) : T γ := seqB (notB (eqL l l')) (fun r => f (.bool (.lit r)) st)
def strNo (_ : List UInt8) (_ : St) (_ : V → St → T γ) (z : T γ) (_ : List UInt8) : T γ := z
def strK (a : Regs) (st : St) (op : BinOp) (y : Operand) (f : V → St → T γ) (z : T γ) (l : List UInt8) : T γ :=
  onO y a (fun w => w.onStr (fun s => s.onLit (fun l' => BinOp.rec (motive := fun _ => T γ) z z z z z z z z z z z (strEq l st f l') (strNe l st f l') z z z z op) z) z) z
def opBinF (a : Regs) (st : St) (op : BinOp) (x y : Operand) (f : V → St → T γ) (z : T γ) : T γ :=
  onO x a (fun v => v.onInt (bin2 a st op y f z) (v.onStr (fun s => s.onLit (strK a st op y f z) z) z)) z
theorem opBinF_eq (hk : ∀ v s, k v s = g (.val v s)) (op : BinOp) (t : TypeId) (x y : Operand) : opBinF a st op x y k ((opBin P a st op t x y).bind g) = (opBin P a st op t x y).bind g := by
  unfold opBinF
  rw [onO_eq]
  split
  case h_2 => rfl
  rename_i v hx
  rw [V.onInt_eq]
  split
  case h_2 =>
    rw [V.onStr_eq]
    split
    case h_2 => rfl
    rename_i s
    rw [S.onLit_eq]
    split
    case h_2 => rfl
    rename_i l
    unfold strK
    rw [onO_eq]
    split
    case h_2 => rfl
    rename_i w hy
    rw [V.onStr_eq]
    split
    case h_2 => rfl
    rename_i s'
    rw [S.onLit_eq]
    split
    case h_2 => rfl
    rename_i l'
    cases op <;> first
      | rfl
      | (simp only [strEq, seqB_eq, eqL_eq, hk]; unfold opBin strOp; rw [hx, hy]; rfl)
      | (simp only [strNe, seqB_eq, eqL_eq, notB_eq, hk]; unfold opBin strOp; rw [hx, hy]; rfl)
  rename_i kk e
  unfold bin2
  rw [E.onLit_eq]
  split
  case h_2 => rfl
  rename_i m
  unfold bin3
  rw [onO_eq]
  split
  case h_2 => rfl
  rename_i w hy
  rw [V.onInt_eq]
  split
  case h_2 => rfl
  rename_i kk' e'
  unfold bin4
  rw [E.onLit_eq]
  split
  case h_2 => rfl
  rename_i n
  rw [onB_eq, keq_eq]
  split
  case isFalse => rfl
  rename_i hkk
  have hkk' : kk = kk' := of_decide_eq_true hkk
  subst hkk'
  unfold opBin
  rw [hx, hy]
  cases op <;> simp only [intK, addK, subK, mulK, noK, cmpK, if_true, intOp, seqI_eq, seqB_eq] <;> first
    | rfl
    | (rw [hk, wrapZ_eq, addZ_eq]; rfl)
    | (rw [hk, wrapZ_eq, subZ_eq]; rfl)
    | (rw [hk, wrapZ_eq, mulZ_eq]; rfl)
    | (rw [hk, cmpZ_eq]; rfl)
def opNilF (a : Regs) (st : St) (x : Operand) (k : V → St → T γ) (z : T γ) : T γ := onO x a (fun v => v.onPtr (fun p => onSome p (fun _ => k v st) z) z) z
theorem opNilF_eq (hk : ∀ v s, k v s = g (.val v s)) (x : Operand) : opNilF a st x k ((opNil a st x).bind g) = (opNil a st x).bind g := by
  unfold opNilF
  rw [onO_eq]
  split
  case h_2 => rfl
  rename_i v hx
  rw [V.onPtr_eq]
  split
  case h_2 => rfl
  rename_i p
  rw [onSome_eq]
  split
  case h_2 => rfl
  unfold opNil
  rw [hx]
  exact hk _ _
def opExtractF (a : Regs) (st : St) (x : Operand) (i : Nat) (k : V → St → T γ) : T γ := onO x a (fun v => v.onTuple (fun vs => onSome (nth vs i) (fun v => k v st) (.fail 9)) (.fail 9)) (.fail 9)
theorem opExtractF_eq (hk : ∀ v s, k v s = g (.val v s)) (x : Operand) (i : Nat) : opExtractF a st x i k = (opExtract a st x i).bind g := by
  unfold opExtractF opExtract
  rw [onO_eq]
  cases evalO a x with
  | none => rfl
  | some v =>
    simp only
    rw [V.onTuple_eq]
    cases v with
    | tuple vs =>
      simp only
      rw [onSome_eq, nth_eq]
      cases vs[i]? with
      | none => rfl
      | some v => exact hk v st
    | _ => rfl
/-- Where a part lies, and whether it is more than one cell. -/
def partOf (P : Program) (t : TypeId) (i : Nat) : Option (Nat × Option Nat) :=
  match P.underlying t with
  | some (.struct fields) => match fields[i]? with
    | some f => match aggOf P f.type, szOf P f.type with
      | some true, some n => some (f.offset, some n)
      | some false, _ => some (f.offset, none)
      | _, _ => none
    | none => none
  | _ => none
def opFieldF (P : Program) (a : Regs) (st : St) (t : TypeId) (x : Operand) (i : Nat) (k : V → St → T γ) (z : T γ) : T γ :=
  onO x a (fun v => v.onAgg (fun cs => onSome (partOf P t i) (fun p => Prod.rec (motive := fun _ => T γ) (fun off n => Option.rec (motive := fun _ => T γ) (onSome (nth cs off) (fun v => k v st) z) (fun n => k (.agg (takeL n (dropL off cs))) st) n) p) z) z) z
theorem opFieldF_eq (hk : ∀ v s, k v s = g (.val v s)) (t : TypeId) (x : Operand) (i : Nat) : opFieldF P a st t x i k ((opField P a st t x i).bind g) = (opField P a st t x i).bind g := by
  unfold opFieldF
  rw [onO_eq]
  split
  case h_2 => rfl
  rename_i v hx
  rw [V.onAgg_eq]
  split
  case h_2 => rfl
  rename_i cs
  rw [onSome_eq]
  split
  case h_2 => rfl
  rename_i p hp
  obtain ⟨off, n⟩ := p
  unfold partOf at hp
  split at hp
  case h_2 => simp at hp
  rename_i fields hu
  split at hp
  case h_2 => simp at hp
  rename_i f hf
  unfold opField
  rw [hu, hx]
  simp only [hf, partV]
  split at hp
  · rename_i m hag hsz
    simp at hp; obtain ⟨rfl, rfl⟩ := hp
    simp only [hag, hsz]
    rw [takeL_eq, dropL_eq]
    exact hk _ _
  · rename_i hag
    simp at hp; obtain ⟨rfl, rfl⟩ := hp
    simp only [hag]
    rw [onSome_eq, nth_eq]
    cases cs[f.offset]? with
    | none => rfl
    | some v => exact hk _ _
  · simp at hp
def opConvF (P : Program) (a : Regs) (st : St) (src dst : TypeId) (x : Operand) (k : V → St → T γ) (z : T γ) : T γ :=
  onO x a (fun v => v.onInt (fun _ e => e.onLit (fun n => onSome (P.underlying src) (fun _ => onSome (match P.underlying dst with | some (.int j) => some j | _ => none) (fun j => seqI (wrapZ j n) (fun r => k (.int j (.lit r)) st)) z) z) z) z) z
theorem opConvF_eq (hk : ∀ v s, k v s = g (.val v s)) (src dst : TypeId) (x : Operand) : opConvF P a st src dst x k ((opConv P a st src dst x).bind g) = (opConv P a st src dst x).bind g := by
  unfold opConvF
  rw [onO_eq]
  split
  case h_2 => rfl
  rename_i v hx
  rw [V.onInt_eq]
  split
  case h_2 => rfl
  rename_i kk e
  rw [E.onLit_eq]
  split
  case h_2 => rfl
  rename_i n
  rw [onSome_eq]
  split
  case h_2 => rfl
  rename_i d hd
  rw [onSome_eq]
  split
  case h_2 => rfl
  rename_i j hj
  split at hj
  · rename_i j' hu
    injection hj with hj; subst hj
    unfold opConv
    rw [hd, hu, hx]
    simp only
    rw [seqI_eq, hk, wrapZ_eq]; rfl
  · simp at hj

/-! ### Texts: a byte, a part -/
/-- Is it a text? -/
def isText (P : Program) (t : TypeId) : Bool :=
  match P.underlying t with
  | some .string => true
  | _ => false
theorem isText_eq {t : TypeId} (h : isText P t = true) : P.underlying t = some .string := by
  unfold isText at h
  split at h
  · assumption
  · simp at h
def onNat (n : Int) (f : Nat → T γ) (z : T γ) : T γ := Int.rec (motive := fun _ => T γ) (fun m => f m) (fun _ => z) n
def opIndexF (P : Program) (a : Regs) (st : St) (t : TypeId) (x i : Operand) (k : V → St → T γ) (z : T γ) : T γ :=
  onB (isText P t) (onO x a (fun v => v.onStr (fun s => s.onLit (fun l => onO i a (fun w => w.onInt (fun _ e => e.onLit (fun n => onNat n (fun m => onSome (nth l m) (fun c => seqN c.toNat (fun b => k (.int .u8 (.lit (.ofNat b))) st)) z) z) z) z) z) z) z) z) z
theorem opIndexF_eq (hk : ∀ v s, k v s = g (.val v s)) (t : TypeId) (x i : Operand) : opIndexF P a st t x i k ((opIndex P a st t x i).bind g) = (opIndex P a st t x i).bind g := by
  unfold opIndexF
  rw [onB_eq]
  split
  case isFalse => rfl
  rename_i ht
  have hu := isText_eq ht
  rw [onO_eq]
  split
  case h_2 => rfl
  rename_i v hx
  rw [V.onStr_eq]
  split
  case h_2 => rfl
  rename_i s
  rw [S.onLit_eq]
  split
  case h_2 => rfl
  rename_i l
  rw [onO_eq]
  split
  case h_2 => rfl
  rename_i w hi
  rw [V.onInt_eq]
  split
  case h_2 => rfl
  rename_i kk e
  rw [E.onLit_eq]
  split
  case h_2 => rfl
  rename_i n
  cases n with
  | negSucc m => rfl
  | ofNat m =>
    show onSome (nth l m) _ _ = _
    rw [onSome_eq, nth_eq]
    cases hc : l[m]? with
    | none => rfl
    | some c =>
      simp only
      rw [seqN_eq, hk]
      have hlt : m < l.length := by
        rcases List.getElem?_eq_some_iff.1 hc with ⟨h, _⟩; exact h
      unfold opIndex
      rw [hu, hx, hi]
      simp only [fork]
      rw [if_pos ⟨Int.natCast_nonneg m, by simpa using hlt⟩]
      have : (Int.ofNat m).toNat = m := rfl
      rw [this, hc]
      rfl
def optO (x : Option Operand) (a : Regs) (f : Nat → T γ) (d : T γ) (z : T γ) : T γ :=
  onSome x (fun x => onO x a (fun w => w.onInt (fun _ e => e.onLit (fun n => onNat n f z) z) z) z) d
def partTo (st : St) (k : V → St → T γ) (z : T γ) (l : List UInt8) (lo hi : Nat) : T γ :=
  onB (Nat.blt lo hi) (seqL (takeL (Nat.sub hi lo) (dropL lo l)) (fun r => onB (Nat.beq (lenN' r) (Nat.sub hi lo)) (k (.str (.lit r)) st) z)) z
def partEnd (st : St) (k : V → St → T γ) (z : T γ) (l : List UInt8) (lo : Nat) : T γ :=
  seqL (dropL lo l) (fun r => List.rec (motive := fun _ => T γ) z (fun _ _ _ => k (.str (.lit r)) st) r)
def opSliceF (P : Program) (a : Regs) (st : St) (t : TypeId) (x : Operand) (lo hi mx : Option Operand) (k : V → St → T γ) (z : T γ) : T γ :=
  onB (isText P t) (onSome mx (fun _ => z) (onO x a (fun v => v.onStr (fun s => s.onLit (fun l =>
    optO lo a (fun n => optO hi a (partTo st k z l n) (partEnd st k z l n) z) (optO hi a (partTo st k z l 0) (partEnd st k z l 0) z) z) z) z) z)) z
theorem litOf_some {a : Regs} {d : Nat} {x : Operand} {w : V} {kk : IntKind} {m : Nat} (hx : evalO a x = some (.int kk (.lit (.ofNat m)))) : litOf a d (some x) = some m := by
  unfold litOf
  simp only [hx]
  rw [if_pos (show (0 : Int) ≤ Int.ofNat m from Int.natCast_nonneg m)]
  rfl
theorem partTo_eq (hk : ∀ v s, k v s = g (.val v s)) {t : TypeId} {x : Operand} {lo hi : Option Operand} {l : List UInt8} {n m : Nat} (hu : P.underlying t = some .string) (hx : evalO a x = some (.str (.lit l)))
    (hlo : litOf a 0 lo = some n) (hhi : litOf a l.length hi = some m) :
    partTo st k ((opSlice P a st t x lo hi none).bind g) l n m = (opSlice P a st t x lo hi none).bind g := by
  unfold partTo
  rw [onB_eq]
  split
  case isFalse => rfl
  rename_i hlt
  have hlt := blt_lt hlt
  rw [seqL_eq, onB_eq]
  split
  case isFalse => rfl
  rename_i hlen
  have hlen := Nat.eq_of_beq_eq_true hlen
  rw [lenN'_eq, takeL_eq, dropL_eq] at hlen
  have hlen' : ((l.drop n).take (m - n)).length = m - n := hlen
  simp only [List.length_take, List.length_drop] at hlen'
  have hle : m ≤ l.length := by omega
  unfold opSlice
  rw [hu, hx]
  simp only
  have hb : boundsOf a l.length l.length lo hi none = some (n, m, l.length) := by
    unfold boundsOf
    simp only [litOf]
    have h1 : litOf a l.length hi = some m := hhi
    have h2 : litOf a 0 lo = some n := hlo
    cases hi <;> simp only [litOf] at h1 <;> cases lo <;> simp only [litOf] at h2 <;> simp_all [okM] <;> omega
  rw [hb]
  simp only [T.bind]
  rw [hk, takeL_eq, dropL_eq]
  congr 4
  exact List.drop_take.symm
theorem partEnd_eq (hk : ∀ v s, k v s = g (.val v s)) {t : TypeId} {x : Operand} {lo : Option Operand} {l : List UInt8} {n : Nat} (hu : P.underlying t = some .string) (hx : evalO a x = some (.str (.lit l)))
    (hlo : litOf a 0 lo = some n) :
    partEnd st k ((opSlice P a st t x lo none none).bind g) l n = (opSlice P a st t x lo none none).bind g := by
  unfold partEnd
  rw [seqL_eq, dropL_eq]
  cases hd : l.drop n with
  | nil => rfl
  | cons c r =>
    simp only
    have hlt : n < l.length := by
      have := congrArg List.length hd
      simp at this; omega
    unfold opSlice
    rw [hu, hx]
    simp only
    have hb : boundsOf a l.length l.length lo none none = some (n, l.length, l.length) := by
      unfold boundsOf
      have h2 : litOf a 0 lo = some n := hlo
      simp only [litOf]
      cases lo <;> simp only [litOf] at h2 <;> simp_all [okM] <;> omega
    rw [hb]
    simp only [T.bind]
    rw [hk, ← hd, List.take_length]
theorem optO_eq (x : Option Operand) (f : Nat → T γ) (d z : T γ) {r : T γ} (d0 : Nat) (hd : x = none → d = r) (hz : z = r) (hf : ∀ n, litOf a d0 x = some n → x.isSome = true → f n = r) : optO x a f d z = r := by
  unfold optO
  rw [onSome_eq]
  cases x with
  | none => exact hd rfl
  | some x =>
    simp only
    rw [onO_eq]
    split
    case h_2 => exact hz
    rename_i w hw
    rw [V.onInt_eq]
    split
    case h_2 => exact hz
    rename_i kk e
    rw [E.onLit_eq]
    split
    case h_2 => exact hz
    rename_i n
    cases n with
    | negSucc m => exact hz
    | ofNat m => exact hf m (litOf_some (w := .nilFunc) hw) rfl
theorem opSliceF_eq (hk : ∀ v s, k v s = g (.val v s)) (t : TypeId) (x : Operand) (lo hi mx : Option Operand) : opSliceF P a st t x lo hi mx k ((opSlice P a st t x lo hi mx).bind g) = (opSlice P a st t x lo hi mx).bind g := by
  unfold opSliceF
  rw [onB_eq]
  split
  case isFalse => rfl
  rename_i ht
  have hu := isText_eq ht
  rw [onSome_eq]
  cases mx with
  | some _ => rfl
  | none =>
    simp only
    rw [onO_eq]
    split
    case h_2 => rfl
    rename_i v hx
    rw [V.onStr_eq]
    split
    case h_2 => rfl
    rename_i s
    rw [S.onLit_eq]
    split
    case h_2 => rfl
    rename_i l
    refine optO_eq _ _ _ _ 0 ?_ rfl ?_
    · intro hlo; subst hlo
      refine optO_eq _ _ _ _ l.length ?_ rfl ?_
      · intro hhi; subst hhi; exact partEnd_eq hk hu hx rfl
      · intro m hm _; exact partTo_eq hk hu hx rfl hm
    · intro n hn _
      refine optO_eq _ _ _ _ l.length ?_ rfl ?_
      · intro hhi; subst hhi; exact partEnd_eq hk hu hx hn
      · intro m hm _; exact partTo_eq hk hu hx hn hm
end
end
end Go.Proofs.YtbobnbndbgpanaaGreat.Sx
