/- The executor: regions, code and calls, computed; and that the model's run comes to what they come to. -/
import Derived.Test.YtloihfdiabbcpaaSxTail
import Derived.Deep.QuietTactic
import Derived.BigQuiet
namespace Go.Proofs.Ytloihfdiabbcpaa.Sx
open Go Go.RowKit

def putV (a : Regs) (d : Option Tmp) (v : V) : Regs :=
  match d with
  | some d => a.set d v
  | none => a
def slotOf (ops : Array Oper) (j : Nat) : Option Tmp :=
  match ops[j]? with
  | some o => o.dst
  | none => none

def runOps (P : Program) (call : FuncId → List V → St → T (V × St)) (ops : Array Oper) : List Oper → Regs → St → T (Regs × St)
  | [], a, st => .ret (a, st)
  | o :: rest, a, st =>
    let go (a : Regs) (st : St) : T (Regs × St) :=
      (opE P a st o).bind fun r => match r with
        | .val v st => runOps P call ops rest (putV a o.dst v) st
        | .skip st => runOps P call ops rest (putV a o.dst undefV) st
        | .enter f args st => (call f args st).bind fun r => runOps P call ops rest (putV a o.dst r.1) r.2
    match o.guard with
    | none => go a st
    | some (j, want) => match slotOf ops j with
      | none => .fail 70
      | some d => match a.get d with
        | .bool b => br st b fun t st =>
          if t = want then go (a.set d (.bool (.lit t))) st
          else runOps P call ops rest (putV (a.set d (.bool (.lit t))) o.dst undefV) st
        | .tuple [] => runOps P call ops rest (putV a o.dst undefV) st
        | _ => .fail 71

/-! ### Regions whose order is open, and that leave memory as it is -/
def ground : Nat → V → Bool
  | 0, _ => false
  | n + 1, v => match v with
    | .bool _ | .int _ _ | .str _ | .ptr none | .nilFunc | .nilIface | .map none | .slice none _ _ _ => true
    | .func _ [] [] => true
    | .agg cs => cs.all (ground n)
    | .tuple cs => cs.all (ground n)
    | .iface _ v => ground n v
    | _ => false

def opF (P : Program) (a : Regs) (st : St) (o : Oper) : T R :=
  match o.op with
  | .move x => opMove a st x
  | .assign x => opMove a st x
  | .pick c x y => opPick a st c x y
  | .build t ps => opBuild P a st t ps
  | .load t x => opLoad P a st t x
  | .nilCheck x => opNil a st x
  | .binOp op t x y _ => opBin P a st op t x y
  | .unOp op _ x => opUn a st op x
  | .convert s d x => opConv P a st s d x
  | .makeInterface t x => opIface P a st t x
  | .makeFunc fn f c => opFunc a st fn f c
  | .fieldAddr t x i => opFieldAddr P a st t x i
  | .field t x i => opField P a st t x i
  | .indexAddr t x i => opIndexAddr P a st t x i
  | .index t x i => opIndex P a st t x i
  | .extract x i => opExtract a st x i
  | .lookup t x k ok => opLookup P a st t x k ok
  | .slice t x lo hi mx => opSlice P a st t x lo hi mx
  | .call c => match c.callee with
    | .builtin b => opBuiltin P a st b c
    | _ => .fail 98
  | _ => .fail 98

/-- The function that a call is of, and its arguments. -/
def calleeOf (P : Program) (a : Regs) (o : Oper) : Option (FuncId × List V) :=
  match o.op with
  | .call c => match c.callee with
    | .value f => match evalO a f, evalOs a c.args.toList with
      | some (.func (.func g) first cap), some args =>
        match P.funcs[g]? with
        | some fn => match fn.body with
          | some _ => some (g, first ++ args ++ cap)
          | none => none
        | none => none
      | _, _ => none
    | _ => none
  | _ => none

def runQ (P : Program) (call : FuncId → List V → St → T (V × St)) (ops : Array Oper) : List Oper → Regs → St → T (Regs × St)
  | [], a, st => .ret (a, st)
  | o :: rest, a, st =>
    let go (a : Regs) (st : St) : T (Regs × St) :=
      match calleeOf P a o with
      | some (f, args) =>
        if args.all (ground 6) then (call f args ⟨[], st.facts⟩).bind fun r =>
          if ground 6 r.1 then runQ P call ops rest (putV a o.dst r.1) st else .fail 72
        else .fail 73
      | none => (opF P a st o).bind fun r => match r with
        | .val v st => if solid 8 v then runQ P call ops rest (putV a o.dst v) st else .fail 76
        | _ => .fail 74
    match o.guard with
    | none => go a st
    | some (j, want) => match slotOf ops j with
      | none => .fail 70
      | some d => match a.get d with
        | .bool b => br st b fun t st =>
          if t = want then go (a.set d (.bool (.lit t))) st
          else runQ P call ops rest (putV (a.set d (.bool (.lit t))) o.dst undefV) st
        | .tuple [] => runQ P call ops rest (putV a o.dst undefV) st
        | _ => .fail 71

inductive X where
  | normal
  | exit (id : Nat)
  | ret

abbrev Summary := FuncId → Option (List V → Option V)

def resultsV (P : Program) (a : Regs) (st : St) : List ResultVar → Option (List V)
  | [] => some []
  | .tmp t :: l => match resultsV P a st l with
    | some r => some (a.get t :: r)
    | none => none
  | .cell x t :: l => match a.get x with
    | .ptr (some (k, o)) => match loadV P st t k o with
      | some v => match resultsV P a st l with
        | some r => some (v :: r)
        | none => none
      | none => none
    | _ => none
def resultV (P : Program) (fn : Func) (a : Regs) (st : St) : Option V :=
  match resultsV P a st fn.results.toList with
  | some [v] => some v
  | some l => some (.tuple l)
  | none => none

def startRegs (args : List V) (n : Nat) : Regs := ⟨args.length + (n - args.length), Regs.fill (args.length + (n - args.length)) 0 args .leaf⟩
theorem fill_get (size : Nat) : ∀ (l : List V) (i : Nat) (t : Tr) (m : Nat), i + l.length ≤ size → (Regs.fill size i l t).get m = if i ≤ m ∧ m < i + l.length then l.getD (m - i) undefV else t.get m
  | [], i, t, m, h => by simp only [Regs.fill, List.length_nil]; rw [if_neg (by omega)]
  | v :: l, i, t, m, h => by
    simp only [List.length_cons] at h
    simp only [Regs.fill, List.length_cons]
    rw [fill_get size l (i + 1) _ m (by omega), Tr.get_set _ _ _ _ _ (by omega)]
    by_cases e : m = i
    · subst e; rw [if_neg (by omega), if_pos rfl, if_pos (by omega)]; simp
    · by_cases h2 : i + 1 ≤ m ∧ m < i + 1 + l.length
      · rw [if_pos h2, if_pos (by omega)]
        obtain ⟨k, rfl⟩ : ∃ k, m = i + 1 + k := ⟨m - (i + 1), by omega⟩
        rw [show i + 1 + k - (i + 1) = k by omega, show i + 1 + k - i = k + 1 by omega]; simp
      · rw [if_neg h2, if_neg e, if_neg (by omega)]
theorem startRegs_get (args : List V) (n m : Nat) : (startRegs args n).get m = args.getD m undefV := by
  unfold startRegs Regs.get
  rw [fill_get _ _ _ _ _ (by omega)]
  split
  · simp
  · rename_i h
    have : args.length ≤ m := by omega
    simp [Tr.get, List.getD, List.getElem?_eq_none this, undefV]

def callE (P : Program) (sm : Summary) (run : Code → Regs → St → T (X × Regs × St)) (f : FuncId) (args : List V) (st : St) : T (V × St) :=
  match sm f with
  | some g => match g args with
    | some v => .ret (v, st)
    | none => .fail 80
  | none => match P.funcs[f]? with
    | some fn => match fn.body with
      | some c => (run c (startRegs args fn.ntmps) st).bind fun r => match r with
        | (.exit _, _) => .fail 81
        | (_, a, st) => match resultV P fn a st with
          | some v => .ret (v, st)
          | none => .fail 82
      | none => .fail 83
    | none => .fail 84

def ev (P : Program) (sm : Summary) : Nat → Code → Regs → St → T (X × Regs × St)
  | 0, _, _, _ => .fail 90
  | n + 1, c, a, st =>
    match c with
    | .skip => .ret (.normal, a, st)
    | .label _ => .ret (.normal, a, st)
    | .ret => .ret (.ret, a, st)
    | .exit id => .ret (.exit id, a, st)
    | .region _ ops false => (runOps P (callE P sm (ev P sm n)) ops ops.toList a st).bind fun r => .ret (.normal, r.1, r.2)
    | .region _ ops true =>
      if Region.lexB .any ops && Nat.beq (tailAt ops.toList) ops.size then (runQ P (callE P sm (ev P sm n)) ops ops.toList a st).bind fun r => .ret (.normal, r.1, r.2)
      else if Region.lexTailB .any ops (tailAt ops.toList) then (runQ P (callE P sm (ev P sm n)) ops (ops.toList.take (tailAt ops.toList)) a st).bind fun r =>
        (runOps P (callE P sm (ev P sm n)) ops (ops.toList.drop (tailAt ops.toList)) r.1 r.2).bind fun r => .ret (.normal, r.1, r.2)
      else if mixB ops (tailAt ops.toList) (mixPre ops) (mixHead ops) then match runPre ops (mixPre ops) a, pickOps ops (mixHead ops) with
        | some a, some l => (runQ P (callE P sm (ev P sm n)) ops l a st).bind fun r =>
          (runOps P (callE P sm (ev P sm n)) ops (ops.toList.drop (tailAt ops.toList)) r.1 r.2).bind fun r => .ret (.normal, r.1, r.2)
        | _, _ => .fail 77
      else .fail 75
    | .seq x y => (ev P sm n x a st).bind fun r => match r with
      | (.normal, a, st) => ev P sm n y a st
      | r => .ret r
    | .cond c x y => match evalO a c with
      | some (.bool b) => br st b fun t st => ev P sm n (if t then x else y) a st
      | _ => .fail 91
    | .block id b => (ev P sm n b a st).bind fun r => match r with
      | (.exit id', a, st) => if id' = id then .ret (.normal, a, st) else .ret (.exit id', a, st)
      | r => .ret r
    | .loop b => (ev P sm n b a st).bind fun r => match r with
      | (.normal, a, st) => ev P sm n (.loop b) a st
      | r => .ret r
    | _ => .fail 92

section
variable {η : Env} {P : Program}

def SumOk (η : Env) (P : Program) (sm : Summary) : Prop :=
  ∀ f g, sm f = some g → ∀ args v, g args = some v → ∀ φ args' W, VRs η φ args args' →
    Calls P f args'.toArray W fun e W' => ∃ v', e = .returned v' ∧ (∀ φ, VR η φ v v') ∧ Below W.heap.size W W'

def CallOk (η : Env) (P : Program) (call : FuncId → List V → St → T (V × St)) : Prop :=
  ∀ f args st v st', (call f args st).sel η = some (v, st') → ∀ φ args' W, VRs η φ args args' → SR η φ st W →
    Calls P f args'.toArray W fun e W' => ∃ v' φ', e = .returned v' ∧ VR η φ' v v' ∧ SR η φ' st' W' ∧ Ext φ φ' W W'

theorem put_ar {φ : Place} {a : Regs} {A : Act} (h : AR η φ a A) (d : Option Tmp) {v : V} {v' : Value} (hv : VR η φ v v') : AR η φ (putV a d v) (A.put d v') := by
  cases d with
  | none => exact h
  | some d =>
    refine ⟨by simp [putV, Act.put, Regs.size_set, h.size], fun t => ?_, h.defers⟩
    simp only [putV, Act.put]
    rw [Regs.get_set]
    split
    · rename_i e
      obtain ⟨e1, rfl⟩ := e
      rw [h.size] at e1
      simpa [Array.getD, e1] using hv
    · rename_i e
      have := h.tmps t
      by_cases e1 : t = d
      · subst e1
        have e2 : ¬ t < A.tmps.size := fun q => e ⟨by rw [h.size]; exact q, rfl⟩
        simpa [Array.getD, e2] using this
      · have e3 : (A.tmps.setIfInBounds d v').getD t undef = A.tmps.getD t undef := by
          simp only [Array.getD_eq_getD_getElem?]
          rw [Array.getElem?_setIfInBounds_ne (by omega)]
        first | simpa [e3] using this | simpa using this

theorem runPre_ar {φ : Place} (ops : Array Oper) : ∀ (ps : List Nat) (a a' : Regs) (A : Act), AR η φ a A → runPre ops ps a = some a' → AR η φ a' (preAct ops ps A)
  | [], a, a', A, ha, h => by simp only [runPre, Option.some.injEq] at h; subst h; exact ha
  | i :: r, a, a', A, ha, h => by
    unfold runPre at h
    unfold preAct
    split at h
    · split at h
      · split at h
        · rename_i x v hv
          exact runPre_ar ops r _ a' _ (put_ar ha _ (evalO_vr ha hv)) h
        · simp at h
      · simp at h
    · simp at h
theorem regs_at {φ : Place} {a : Regs} {A : Act} (h : AR η φ a A) {d : Nat} {b : B} (e : a.get d = .bool b) : ∃ v', A.tmps[d]? = some v' ∧ VR η φ (.bool b) v' := by
  have h1 := h.tmps d
  rw [e] at h1
  cases hd : A.tmps[d]? with
  | none => rw [Array.getD_eq_getD_getElem?, hd] at h1; cases h1
  | some v' => exact ⟨v', rfl, by simpa [Array.getD_eq_getD_getElem?, hd] using h1⟩
theorem set_ar {φ : Place} {a : Regs} {A : Act} (h : AR η φ a A) {d : Nat} {b : B} (e : A.tmps[d]? = some (.bool (b.den η))) : AR η φ (a.set d (.bool (.lit (b.den η)))) A := by
  refine ⟨by rw [Regs.size_set]; exact h.size, fun t => ?_, h.defers⟩
  rw [Regs.get_set]
  split
  · rename_i q
    obtain ⟨_, rfl⟩ := q
    rw [Array.getD_eq_getD_getElem?, e]
    exact .bool (.lit (b.den η))
  · exact h.tmps t

theorem runOps_ok (hP : Plain P) {call : FuncId → List V → St → T (V × St)} (hcall : CallOk η P call) (ops : Array Oper) :
    ∀ (l : List Oper) (a : Regs) (st : St) (a' : Regs) (st' : St), (runOps P call ops l a st).sel η = some (a', st') →
    ∀ (φ : Place) (A : Act) (W : World) (Q : Exit → Act → World → Prop), AR η φ a A → SR η φ st W →
      (∀ φ' A' W', AR η φ' a' A' → SR η φ' st' W' → Ext φ φ' W W' → Q .normal A' W') → wpList P ops Q l A W := by
  intro l
  induction l with
  | nil =>
    intro a st a' st' h φ A W Q ha hs hq
    simp only [runOps, T.sel, Option.some.injEq, Prod.mk.injEq] at h
    obtain ⟨rfl, rfl⟩ := h
    exact hq φ A W ha hs (Ext.refl _ _)
  | cons o rest ih =>
    intro a st a' st' h φ A W Q ha hs hq
    -- the operation is carried out
    have hgo : ∀ (a : Regs) (st : St), AR η φ a A → SR η φ st W →
        ((opE P a st o).bind fun r => match r with
          | .val v st => runOps P call ops rest (putV a o.dst v) st
          | .skip st => runOps P call ops rest (putV a o.dst undefV) st
          | .enter f args st => (call f args st).bind fun r => runOps P call ops rest (putV a o.dst r.1) r.2).sel η = some (a', st') →
        o.wp P A W (wpList P ops Q rest) Q := by
      intro a st ha hs h
      rw [T.sel_bind] at h
      cases hr : (opE P a st o).sel η with
      | none => rw [hr] at h; simp at h
      | some r =>
        rw [hr] at h
        simp only [Option.bind_some] at h
        have hres := opE_ok hP ha hs hr
        unfold Oper.wp
        cases r with
        | val v st1 =>
          obtain ⟨v', W1, φ1, h1, h2, h3, h4⟩ := hres
          rw [h1]
          show wpList P ops Q rest (A.put o.dst v') W1
          exact ih _ _ _ _ h φ1 _ W1 Q (put_ar (ha.mono h4.mono) _ h2) h3 (fun φ' A' W' g1 g2 g3 => hq φ' A' W' g1 g2 (h4.trans g3))
        | skip st1 =>
          obtain ⟨W1, φ1, h1, h3, h4⟩ := hres
          rw [h1]
          show wpList P ops Q rest (A.put o.dst undef) W1
          exact ih _ _ _ _ h φ1 _ W1 Q (put_ar (ha.mono h4.mono) _ undef_vr) h3 (fun φ' A' W' g1 g2 g3 => hq φ' A' W' g1 g2 (h4.trans g3))
        | enter f args st1 =>
          obtain ⟨args', W1, φ1, h1, h2, h3, h4⟩ := hres
          rw [h1]
          rw [T.sel_bind] at h
          cases hc : (call f args st1).sel η with
          | none => rw [hc] at h; simp at h
          | some q =>
            obtain ⟨v, st2⟩ := q
            rw [hc] at h
            simp only [Option.bind_some] at h
            have hcs := hcall f args st1 v st2 hc φ1 _ W1 h2 h3
            rw [Array.toArray_toList] at hcs
            show Calls P f args' W1 _
            refine hcs.mono ?_
            rintro e W2 ⟨v', φ2, rfl, g1, g2, g3⟩
            show wpList P ops Q rest (A.put o.dst v') W2
            have hx := h4.trans g3
            exact ih _ _ _ _ h φ2 _ W2 Q (put_ar (ha.mono hx.mono) _ g1) g2 (fun φ' A' W' k1 k2 k3 => hq φ' A' W' k1 k2 (hx.trans k3))
    have hskip : ∀ (a : Regs) (st : St), AR η φ a A → SR η φ st W → (runOps P call ops rest (putV a o.dst undefV) st).sel η = some (a', st') →
        wpList P ops Q rest (A.put o.dst undef) W := by
      intro a st ha hs h
      exact ih _ _ _ _ h φ _ W Q (put_ar ha _ undef_vr) hs hq
    unfold runOps at h
    unfold wpList
    split at h
    · rename_i hg
      rw [if_pos (by simp [Region.wanted, hg])]
      exact .inl (hgo a st ha hs h)
    · rename_i j want hg
      split at h
      · simp [T.sel] at h
      · rename_i d hd
        have hy : ∀ v, A.tmps[d]? = some v → yielded ops A.tmps j = (match v with | .bool b => some b | _ => none) := by
          intro v hv
          unfold slotOf at hd
          split at hd
          · rename_i oj hj
            unfold yielded
            rw [hj]
            simp only [Option.bind_some, hd, hv]
            cases v <;> rfl
          · simp at hd
        split at h
        · rename_i b hb
          obtain ⟨v', h1, h2⟩ := regs_at ha hb
          cases h2
          have hyb := hy _ h1
          obtain ⟨st1, h', hs'⟩ := br_sel hs h
          have ha' : AR η φ (a.set d (.bool (.lit (b.den η)))) A := set_ar ha h1
          by_cases hw : b.den η = want
          · rw [if_pos hw] at h'
            rw [if_pos (by simp [Region.wanted, hg, hyb, hw])]
            exact .inl (hgo _ _ ha' hs' h')
          · rw [if_neg hw] at h'
            rw [if_neg (by simp [Region.wanted, hg, hyb, hw])]
            exact hskip _ _ ha' hs' h'
        · rename_i hb
          have hyb : yielded ops A.tmps j = none := by
            have h2 := ha.tmps d
            rw [hb] at h2
            cases h1 : A.tmps[d]? with
            | none =>
              unfold slotOf at hd
              split at hd
              · rename_i oj hj
                unfold yielded
                rw [hj]
                simp [hd, h1]
              · simp at hd
            | some v' =>
              rw [Array.getD_eq_getD_getElem?, h1] at h2
              have h3 := hy _ h1
              cases h2 with
              | tuple _ cs' hcs => exact h3
          rw [if_neg (by simp [Region.wanted, hg, hyb])]
          exact hskip _ _ ha hs h
        · simp [T.sel] at h

/-! ### What is quiet -/
theorem ground_vr {φ φ' : Place} : ∀ (n : Nat) (v : V) (v' : Value), ground n v = true → VR η φ v v' → VR η φ' v v' := by
  intro n
  induction n with
  | zero => intro v v' h; simp [ground] at h
  | succ n ih =>
    intro v v' h hv
    have hl : ∀ (l : List V) (l' : List Value), l.all (ground n) = true → VRs η φ l l' → VRs η φ' l l' := by
      intro l
      induction l with
      | nil => intro l' _ h; cases h; exact .nil
      | cons a l il =>
        intro l' hg h
        cases h with
        | cons _ a' _ l'' h1 h2 =>
          simp only [List.all_cons, Bool.and_eq_true] at hg
          exact .cons _ _ _ _ (ih a a' hg.1 h1) (il l'' hg.2 h2)
    cases hv with
    | bool b => exact .bool b
    | int k e => exact .int k e
    | str s => exact .str s
    | ptrN => exact .ptrN
    | ptr => simp [ground] at h
    | sliceN l c x => exact .sliceN l c x
    | slice => simp [ground] at h
    | sliceE => simp [ground] at h
    | mapN => exact .mapN
    | map => simp [ground] at h
    | func fn a c a' c' ha hc =>
      cases ha with
      | nil => cases hc with
        | nil => exact .func fn [] [] [] [] .nil .nil
        | cons => simp [ground] at h
      | cons => simp [ground] at h
    | nilFunc => exact .nilFunc
    | iface t v v' hv => exact .iface t v v' (ih v v' (by simpa [ground] using h) hv)
    | nilIface => exact .nilIface
    | agg cs cs' hcs => exact .agg cs cs' (hl cs cs' (by simpa [ground] using h) hcs)
    | tuple cs cs' hcs => exact .tuple cs cs' (hl cs cs' (by simpa [ground] using h) hcs)
theorem ground_solid : ∀ (n : Nat) (v : V), ground n v = true → solid n v = true := by
  intro n
  induction n with
  | zero => intro v h; simp [ground] at h
  | succ n ih =>
    intro v h
    have hl : ∀ l : List V, l.all (ground n) = true → l.all (solid n) = true := fun l h => List.all_eq_true.2 fun x hx => ih x (List.all_eq_true.1 h x hx)
    unfold ground at h
    unfold solid
    split at h <;> simp_all
theorem ground_vrs {φ φ' : Place} {n : Nat} : ∀ (l : List V) (l' : List Value), l.all (ground n) = true → VRs η φ l l' → VRs η φ' l l'
  | [], _, _, .nil => .nil
  | a :: l, _, hg, .cons _ a' _ l' h1 h2 => by
    simp only [List.all_cons, Bool.and_eq_true] at hg
    exact .cons _ _ _ _ (ground_vr n a a' hg.1 h1) (ground_vrs l l' hg.2 h2)

theorem SR.below {φ : Place} {st : St} {W W' : World} (hs : SR η φ st W) (h : Below W.heap.size W W') : SR η φ st W' := by
  constructor
  · intro k o hk hd
    obtain ⟨b, s, g1, g2⟩ := hs.obj k o hk hd
    exact ⟨b, s, g1, by rw [h.block b (hs.dom k b s g1).2]; exact g2⟩
  · intro k b s hk
    have := hs.dom k b s hk
    exact ⟨this.1, Nat.lt_of_lt_of_le this.2 h.size⟩
  · exact hs.sep
  · exact hs.facts

theorem opF_ok {φ : Place} {W : World} {a : Regs} {A : Act} {st : St} {o : Oper} {r : R} (ha : AR η φ a A) (hs : SR η φ st W) (h : (opF P a st o).sel η = some r) :
    ResF η φ W r ((execOp A.eval o).run P W) := by
  unfold opF at h
  split at h
  · rename_i ho; unfold execOp; simp only [ho]; exact opMove_ok ha hs h
  · rename_i ho; unfold execOp; simp only [ho]; exact opMove_ok ha hs h
  · rename_i ho; unfold execOp; simp only [ho]; exact opPick_ok ha hs h
  · rename_i ho; unfold execOp; simp only [ho]; exact opBuild_ok ha hs h
  · rename_i ho; unfold execOp; simp only [ho]; exact opLoad_ok ha hs h
  · rename_i ho; exact opNil_ok ho ha hs h
  · rename_i ho; unfold execOp; simp only [ho]; exact opBin_ok ha hs h
  · rename_i ho; unfold execOp; simp only [ho]; exact opUn_ok ha hs h
  · rename_i ho; unfold execOp; simp only [ho]; exact opConv_ok ha hs h
  · rename_i ho; unfold execOp; simp only [ho]; exact opIface_ok ha hs h
  · rename_i ho; unfold execOp; simp only [ho]; exact opFunc_ok ha hs h
  · rename_i ho; unfold execOp; simp only [ho]; exact opFieldAddr_ok ha hs h
  · rename_i ho; unfold execOp; simp only [ho]; exact opField_ok ha hs h
  · rename_i ho; unfold execOp; simp only [ho]; exact opIndexAddr_ok ha hs h
  · rename_i ho; unfold execOp; simp only [ho]; exact opIndex_ok ha hs h
  · rename_i ho; unfold execOp; simp only [ho]; exact opExtract_ok ha hs h
  · rename_i ho; unfold execOp; simp only [ho]; exact opLookup_ok ha hs h
  · rename_i ho; unfold execOp; simp only [ho]; exact opSlice_ok ha hs h
  · rename_i c ho
    split at h
    · rename_i b hb; exact opBuiltin_ok ho hb ha hs h
    · simp [T.sel] at h
  · simp [T.sel] at h

theorem callee_run (hP : Plain P) {φ : Place} {a : Regs} {A : Act} {o : Oper} {f : FuncId} {args : List V} (ha : AR η φ a A) (h : calleeOf P a o = some (f, args)) :
    ∃ args', VRs η φ args args' ∧ ∀ W, (execOp A.eval o).run P W = .ok (.enter f args'.toArray) W := by
  unfold calleeOf at h
  split at h
  · rename_i c ho
    split at h
    · rename_i fo hc
      split at h
      · rename_i g first cap args0 hf hargs
        split at h
        · rename_i fn hfn
          split at h
          · rename_i body hb
            simp only [Option.some.injEq, Prod.mk.injEq] at h
            obtain ⟨rfl, rfl⟩ := h
            have h1 := evalO_vr ha hf
            have h2 := evalOs_vr ha hargs
            generalize hfv : A.eval fo = fv at h1
            cases h1 with
            | func _ _ _ first' cap' hfirst hcap =>
              have hname := hP g fn hfn (by simp [hb])
              have hn2 : ¬ ((fn.name == "runtime.NumGoroutine") = true) := by rw [hname]; simp
              have hb2 : ¬ (fn.body.isNone = true) := by simp [hb]
              refine ⟨first' ++ (c.args.toList.map A.eval) ++ cap', (hfirst.append h2).append hcap, fun W => ?_⟩
              unfold execOp
              simp only [ho, resolve, hc, Sem.run_bind, hfv, Deferred.ofValue, Sem.run_pure, Result.andThen_ok, invoke, callFunc, run_program, hfn]
              rw [if_neg hn2, if_neg hb2]
              simp only [Sem.run_pure, args_map]
              simp
          · simp at h
        · simp at h
      · simp at h
    · simp at h
  · simp at h

theorem runQ_ok (hP : Plain P) {call : FuncId → List V → St → T (V × St)} (hcall : CallOk η P call) (ops : Array Oper) {φ : Place} {W : World} :
    ∀ (l : List Oper) (a : Regs) (st : St) (a' : Regs) (st' : St), (runQ P call ops l a st).sel η = some (a', st') →
    ∀ (A : Act) (Q : Act → Prop), AR η φ a A → SR η φ st W → (∀ A', AR η φ a' A' → SR η φ st' W → Q A') →
      wpQuiet P ops (Below W.heap.size W) Q l A := by
  intro l
  induction l with
  | nil =>
    intro a st a' st' h A Q ha hs hq
    simp only [runQ, T.sel, Option.some.injEq, Prod.mk.injEq] at h
    obtain ⟨rfl, rfl⟩ := h
    exact hq A ha hs
  | cons o rest ih =>
    intro a st a' st' h A Q ha hs hq
    have hgo : ∀ (a : Regs) (st : St), AR η φ a A → SR η φ st W →
        (match calleeOf P a o with
          | some (f, args) =>
            if args.all (ground 6) then (call f args ⟨[], st.facts⟩).bind fun r =>
              if ground 6 r.1 then runQ P call ops rest (putV a o.dst r.1) st else .fail 72
            else .fail 73
          | none => (opF P a st o).bind fun r => match r with
            | .val v st => if solid 8 v then runQ P call ops rest (putV a o.dst v) st else .fail 76
            | _ => .fail 74).sel η = some (a', st') →
        o.quiet P A (Below W.heap.size W) (wpQuiet P ops (Below W.heap.size W) Q rest) := by
      intro a st ha hs h
      split at h
      · rename_i f args hc
        obtain ⟨args', h1, h2⟩ := callee_run hP ha hc
        split at h
        · rename_i hg
          rw [T.sel_bind] at h
          cases hr : (call f args ⟨[], st.facts⟩).sel η with
          | none => rw [hr] at h; simp at h
          | some q =>
            obtain ⟨v, st1⟩ := q
            rw [hr] at h
            simp only [Option.bind_some] at h
            split at h
            · rename_i hgv
              have hs0 : ∀ w, SR η (fun _ => none) ⟨[], st.facts⟩ w := fun w =>
                ⟨fun k o h => by simp at h, fun k b s h => by simp at h, fun j k b s s' oj ok h => by simp at h, hs.facts⟩
              have hcs : ∀ w, Calls P f args'.toArray w fun e w' => ∃ v', e = .returned v' ∧ VR η (fun _ => none) v v' ∧ Below w.heap.size w w' := by
                intro w
                refine (hcall f args _ v st1 hr (fun _ => none) args' w (ground_vrs args args' hg h1) (hs0 w)).mono ?_
                rintro e w' ⟨v', φ', rfl, g1, _, g3⟩
                exact ⟨v', rfl, ground_vr 6 v v' hgv g1, ⟨g3.os, g3.tape, g3.output, g3.size, fun b hb => g3.block b hb (fun k s => by simp)⟩⟩
              obtain ⟨e0, w0, fr0, ⟨v0, he0, hv0, _⟩, _⟩ := hcs W []
              refine ⟨v0, fun w hw => ?_, ih _ _ _ _ h _ Q (put_ar ha _ (ground_vr 6 v v0 hgv hv0)) hs hq⟩
              unfold Oper.quietAt
              rw [h2 w]
              refine ⟨rfl, (hcs w).mono ?_⟩
              rintro e w' ⟨v', rfl, g1, g2⟩
              rw [VR.uniq 6 v _ _ (ground_solid 6 v hgv) g1 hv0]
              exact ⟨rfl, hw.trans ⟨g2.os, g2.tape, g2.output, g2.size, fun b hb => g2.block b (Nat.lt_of_lt_of_le hb hw.size)⟩⟩
            · simp [T.sel] at h
        · simp [T.sel] at h
      · rw [T.sel_bind] at h
        cases hr : (opF P a st o).sel η with
        | none => rw [hr] at h; simp at h
        | some r =>
          rw [hr] at h
          simp only [Option.bind_some] at h
          obtain ⟨v, st1, v0, rfl, _, hv0, hs1⟩ := opF_ok ha hs hr
          simp only at h
          split at h
          case isFalse => simp [T.sel] at h
          rename_i hsv
          refine ⟨v0, fun w hw => ?_, ih _ _ _ _ h _ Q (put_ar ha _ hv0) hs1 hq⟩
          obtain ⟨v2, st2, v', he, h1, h2, _⟩ := opF_ok ha (hs.below hw) hr
          injection he with he1 he2
          subst he1
          unfold Oper.quietAt
          rw [h1]
          exact ⟨rfl, VR.uniq 8 _ _ _ hsv h2 hv0⟩
    have hskip : ∀ (a : Regs) (st : St), AR η φ a A → SR η φ st W → (runQ P call ops rest (putV a o.dst undefV) st).sel η = some (a', st') →
        wpQuiet P ops (Below W.heap.size W) Q rest (A.put o.dst undef) := by
      intro a st ha hs h
      exact ih _ _ _ _ h _ Q (put_ar ha _ undef_vr) hs hq
    unfold runQ at h
    unfold wpQuiet
    split at h
    · rename_i hg
      rw [if_pos (by simp [Region.wanted, hg])]
      exact hgo a st ha hs h
    · rename_i j want hg
      split at h
      · simp [T.sel] at h
      · rename_i d hd
        have hy : ∀ v, A.tmps[d]? = some v → yielded ops A.tmps j = (match v with | .bool b => some b | _ => none) := by
          intro v hv
          unfold slotOf at hd
          split at hd
          · rename_i oj hj
            unfold yielded
            rw [hj]
            simp only [Option.bind_some, hd, hv]
            cases v <;> rfl
          · simp at hd
        split at h
        · rename_i b hb
          obtain ⟨v', h1, h2⟩ := regs_at ha hb
          cases h2
          have hyb := hy _ h1
          obtain ⟨st1, h', hs'⟩ := br_sel hs h
          have ha' : AR η φ (a.set d (.bool (.lit (b.den η)))) A := set_ar ha h1
          by_cases hw : b.den η = want
          · rw [if_pos hw] at h'
            rw [if_pos (by simp [Region.wanted, hg, hyb, hw])]
            exact hgo _ _ ha' hs' h'
          · rw [if_neg hw] at h'
            rw [if_neg (by simp [Region.wanted, hg, hyb, hw])]
            exact hskip _ _ ha' hs' h'
        · rename_i hb
          have hyb : yielded ops A.tmps j = none := by
            have h2 := ha.tmps d
            rw [hb] at h2
            cases h1 : A.tmps[d]? with
            | none =>
              unfold slotOf at hd
              split at hd
              · rename_i oj hj
                unfold yielded
                rw [hj]
                simp [hd, h1]
              · simp at hd
            | some v' =>
              rw [Array.getD_eq_getD_getElem?, h1] at h2
              have h3 := hy _ h1
              cases h2 with
              | tuple _ cs' hcs => exact h3
          rw [if_neg (by simp [Region.wanted, hg, hyb])]
          exact hskip _ _ ha hs h
        · simp [T.sel] at h

/-! ### Results -/
theorem run_resultsV {φ : Place} {W : World} {a : Regs} {A : Act} {st : St} (ha : AR η φ a A) (hs : SR η φ st W) : ∀ (l : List ResultVar) (r : List V), resultsV P a st l = some r →
    ∃ r', (l.mapM (fun x => match x with | .tmp t => pure (A.tmps.getD t undef) | .cell x t => do loadVar t (← asAddr (A.tmps.getD x undef)) : ResultVar → Sem Value)).run P W = .ok r' W ∧ VRs η φ r r'
  | [], r, h => by simp [resultsV] at h; subst h; exact ⟨[], rfl, .nil⟩
  | .tmp t :: l, r, h => by
    unfold resultsV at h
    split at h
    · rename_i r1 hr
      simp at h; subst h
      obtain ⟨r', h1, h2⟩ := run_resultsV ha hs l r1 hr
      have hv : VR η φ (a.get t) (A.tmps.getD t undef) := evalO_vr ha (x := .tmp t) (by simp [evalO])
      refine ⟨A.tmps.getD t undef :: r', ?_, .cons _ _ _ _ (by simpa using hv) h2⟩
      simp only [List.mapM_cons, Sem.run_bind, Sem.run_pure, Result.andThen_ok, h1]
    · simp at h
  | .cell x t :: l, r, h => by
    unfold resultsV at h
    split at h
    · rename_i k o hp
      split at h
      · rename_i v hv
        split at h
        · rename_i r1 hr
          simp at h; subst h
          obtain ⟨r', h1, h2⟩ := run_resultsV ha hs l r1 hr
          have hx : VR η φ (a.get x) (A.tmps.getD x undef) := evalO_vr ha (x := .tmp x) (by simp [evalO])
          rw [hp] at hx
          generalize hq : A.tmps.getD x undef = q at hx
          cases hx with
          | ptr k o b s hφ =>
            obtain ⟨v', g1, g2⟩ := run_loadV (P := P) hs hφ hv
            refine ⟨v' :: r', ?_, .cons _ _ _ _ g2 h2⟩
            have hasA : asAddr (A.tmps.getD x undef) = pure ⟨b, s.1 + o, none⟩ := by rw [hq]; rfl
            simp only [List.mapM_cons, Sem.run_bind, Sem.run_pure, Result.andThen_ok, hasA, g1, h1]
        · simp at h
      · simp at h
    · simp at h

theorem run_resultV {φ : Place} {W : World} {fn : Func} {a : Regs} {A : Act} {st : St} {v : V} (ha : AR η φ a A) (hs : SR η φ st W) (h : resultV P fn a st = some v) :
    ∃ v', (results fn A.tmps).run P W = .ok v' W ∧ VR η φ v v' := by
  have key : ∀ r, resultsV P a st fn.results.toList = some r → ∃ r', (fn.results.mapM (fun x => match x with | .tmp t => pure (A.tmps.getD t undef) | .cell x t => do loadVar t (← asAddr (A.tmps.getD x undef)) : ResultVar → Sem Value)).run P W = .ok r'.toArray W ∧ VRs η φ r r' := by
    intro r hr
    obtain ⟨r', h1, h2⟩ := run_resultsV ha hs _ _ hr
    refine ⟨r', ?_, h2⟩
    rw [Array.mapM_eq_mapM_toList]
    simp only [Sem.run_map, h1, Result.andThen_ok]
  have hres : results fn A.tmps = (do let vs ← fn.results.mapM (fun x => match x with | .tmp t => pure (A.tmps.getD t undef) | .cell x t => do loadVar t (← asAddr (A.tmps.getD x undef)) : ResultVar → Sem Value); pure (if h : vs.size = 1 then vs[0] else .tuple vs)) := rfl
  unfold resultV at h
  split at h
  · rename_i v1 hr
    simp at h; subst h
    obtain ⟨r', h1, h2⟩ := key _ hr
    cases h2 with
    | cons _ v' _ l' hv ht => cases ht with | nil =>
    refine ⟨v', ?_, hv⟩
    rw [hres]
    simp only [Sem.run_bind, h1, Result.andThen_ok]; rfl
  · rename_i l hn hr
    simp at h; subst h
    obtain ⟨r', h1, h2⟩ := key _ hr
    refine ⟨.tuple r'.toArray, ?_, .tuple _ _ h2⟩
    rw [hres]
    simp only [Sem.run_bind, h1, Result.andThen_ok]
    have hl := h2.length
    have hne : ¬ r'.toArray.size = 1 := by
      intro he
      simp at he
      rw [he] at hl
      match l, hl with
      | [x], _ => exact hn x rfl
    rw [dif_neg hne]; rfl
  · simp at h

/-! ### Code -/
def XR : X → Exit → Prop
  | .normal, .normal => True
  | .exit i, .exit j => i = j
  | .ret, .ret => True
  | _, _ => False
def Post (η : Env) (φ : Place) (W : World) (x : X) (a : Regs) (st : St) : Exit → Act → World → Prop :=
  fun e A W' => ∃ φ', XR x e ∧ AR η φ' a A ∧ SR η φ' st W' ∧ Ext φ φ' W W'

def EvOk (η : Env) (P : Program) (run : Code → Regs → St → T (X × Regs × St)) : Prop :=
  ∀ c a st x a' st', (run c a st).sel η = some (x, a', st') → ∀ φ A W, AR η φ a A → SR η φ st W → c.wp P (Post η φ W x a' st') A W

theorem callE_ok {sm : Summary} (hsm : SumOk η P sm) {run : Code → Regs → St → T (X × Regs × St)} (hrun : EvOk η P run) : CallOk η P (callE P sm run) := by
  intro f args st v st' h φ args' W hargs hs
  unfold callE at h
  split at h
  · rename_i g hg
    split at h
    · rename_i v1 hv
      simp only [T.sel, Option.some.injEq, Prod.mk.injEq] at h
      obtain ⟨rfl, rfl⟩ := h
      refine (hsm f g hg args v1 hv φ args' W hargs).mono ?_
      rintro e W' ⟨v', rfl, h1, h2⟩
      refine ⟨v', φ, rfl, h1 φ, ?_, ?_⟩
      · exact hs.below h2
      · exact ⟨Mono.refl φ, fun k b s h h' => by simp [h] at h', h2.os, h2.tape, h2.output, h2.size, fun b hb _ => h2.block b hb⟩
    · simp [T.sel] at h
  · split at h
    · rename_i fn hfn
      split at h
      · rename_i c hc
        rw [T.sel_bind] at h
        cases hr : (run c (startRegs args fn.ntmps) st).sel η with
        | none => rw [hr] at h; simp at h
        | some q =>
          obtain ⟨x, a', st1⟩ := q
          rw [hr] at h
          simp only [Option.bind_some] at h
          have hlen := hargs.length
          have hA : AR η φ (startRegs args fn.ntmps) { tmps := args'.toArray ++ Array.replicate (fn.ntmps - args'.toArray.size) undef, defers := [] } := by
            refine ⟨by simp [startRegs, hlen], fun t => ?_, rfl⟩
            rw [startRegs_get]
            by_cases ht : t < args.length
            · obtain ⟨v', h1, h2⟩ := hargs.get t args[t] (by simp [ht])
              have e1 : args.getD t undefV = args[t] := by simp [List.getD, ht]
              have e2 : (args'.toArray ++ Array.replicate (fn.ntmps - args'.toArray.size) undef).getD t undef = v' := by
                rw [Array.getD_eq_getD_getElem?, Array.getElem?_append_left (by simp; omega)]
                simp [h1]
              rw [e1]
              show VR η φ _ ((args'.toArray ++ Array.replicate (fn.ntmps - args'.toArray.size) undef).getD t undef)
              rw [e2]; exact h2
            · have e1 : args.getD t undefV = undefV := by simp [List.getD, List.getElem?_eq_none (Nat.le_of_not_lt ht)]
              have e2 : (args'.toArray ++ Array.replicate (fn.ntmps - args'.toArray.size) undef).getD t undef = undef := by
                rw [Array.getD_eq_getD_getElem?, Array.getElem?_append_right (by simp; omega)]
                rw [Array.getElem?_replicate]; split <;> rfl
              rw [e1]
              show VR η φ _ ((args'.toArray ++ Array.replicate (fn.ntmps - args'.toArray.size) undef).getD t undef)
              rw [e2]; exact undef_vr
          have hwp := hrun c _ st x a' st1 hr φ _ W hA hs
          refine calls_of_wp hfn hc (wp_mono hwp ?_)
          rintro e A' W' ⟨φ', hx, ha', hs', hext⟩
          have hfin : x = .normal ∨ x = .ret → bodyPost P fn (fun e W' => ∃ v' φ', e = .returned v' ∧ VR η φ' v v' ∧ SR η φ' st' W' ∧ Ext φ φ' W W') .normal A' W' := by
            intro hx'
            have hh : (match resultV P fn a' st1 with | some v => T.ret (v, st1) | none => .fail 82).sel η = some (v, st') := by
              rcases hx' with rfl | rfl <;> exact h
            split at hh
            · rename_i v1 hv
              simp only [T.sel, Option.some.injEq, Prod.mk.injEq] at hh
              obtain ⟨rfl, rfl⟩ := hh
              obtain ⟨v', g1, g2⟩ := run_resultV (P := P) ha' hs' hv
              exact ⟨ha'.defers, v', g1, v', φ', rfl, g2, hs', hext⟩
            · simp [T.sel] at hh
          cases x <;> cases e <;> simp [XR] at hx
          · exact hfin (.inl rfl)
          · simp [T.sel] at h
          · exact hfin (.inr rfl)
      · simp [T.sel] at h
    · simp [T.sel] at h

theorem rounds_mono {b : Code} {Q Q' : Exit → Act → World → Prop} (hq : ∀ e a w, Q e a w → Q' e a w) : ∀ n A W, Code.rounds P b Q n A W → Code.rounds P b Q' n A W := by
  intro n
  induction n with
  | zero => intro A W h; exact h.elim
  | succ n ih =>
    intro A W h
    rw [rounds_succ] at h ⊢
    refine wp_mono h ?_
    intro e A1 W1 h1
    cases e with
    | normal => exact ih A1 W1 h1
    | _ => exact hq _ _ _ h1

theorem ev_ok (hP : Plain P) (hM : P.follows .mixedOrders = true) {sm : Summary} (hsm : SumOk η P sm) : ∀ n, EvOk η P (ev P sm n) ∧
    (∀ b a st x a' st', (ev P sm n (.loop b) a st).sel η = some (x, a', st') → ∀ φ A W, AR η φ a A → SR η φ st W → Code.rounds P b (Post η φ W x a' st') n A W) := by
  intro n
  induction n with
  | zero =>
    refine ⟨?_, ?_⟩
    · intro c a st x a' st' h; simp [ev, T.sel] at h
    · intro c a st x a' st' h; simp [ev, T.sel] at h
  | succ n ih =>
    obtain ⟨ih, ihl⟩ := ih
    have hloop : ∀ b a st x a' st', (ev P sm (n + 1) (.loop b) a st).sel η = some (x, a', st') → ∀ φ A W, AR η φ a A → SR η φ st W → Code.rounds P b (Post η φ W x a' st') (n + 1) A W := by
      intro b a st x a' st' h φ A W ha hs
      unfold ev at h
      rw [T.sel_bind] at h
      cases hr : (ev P sm n b a st).sel η with
      | none => rw [hr] at h; simp at h
      | some q =>
        obtain ⟨x1, a1, st1⟩ := q
        rw [hr] at h
        simp only [Option.bind_some] at h
        rw [rounds_succ]
        refine wp_mono (ih b a st x1 a1 st1 hr φ A W ha hs) ?_
        rintro e A1 W1 ⟨φ1, hx, ha1, hs1, he1⟩
        cases x1 <;> cases e <;> simp [XR] at hx
        · show Code.rounds P b _ n A1 W1
          refine rounds_mono ?_ n A1 W1 (ihl b a1 st1 x a' st' h φ1 A1 W1 ha1 hs1)
          rintro e2 A2 W2 ⟨φ2, k1, k2, k3, k4⟩
          exact ⟨φ2, k1, k2, k3, he1.trans k4⟩
        · subst hx
          simp only [T.sel, Option.some.injEq, Prod.mk.injEq] at h
          obtain ⟨rfl, rfl, rfl⟩ := h
          exact ⟨φ1, rfl, ha1, hs1, he1⟩
        · simp only [T.sel, Option.some.injEq, Prod.mk.injEq] at h
          obtain ⟨rfl, rfl, rfl⟩ := h
          exact ⟨φ1, trivial, ha1, hs1, he1⟩
    refine ⟨?_, hloop⟩
    intro c a st x a' st' h φ A W ha hs
    cases c with
    | loop b => exact wp_loop_rounds (n + 1) (hloop b a st x a' st' h φ A W ha hs)
    | skip =>
      simp only [ev, T.sel, Option.some.injEq, Prod.mk.injEq] at h
      obtain ⟨rfl, rfl, rfl⟩ := h
      exact wp_skip ⟨φ, trivial, ha, hs, Ext.refl _ _⟩
    | label l =>
      simp only [ev, T.sel, Option.some.injEq, Prod.mk.injEq] at h
      obtain ⟨rfl, rfl, rfl⟩ := h
      exact wp_label ⟨φ, trivial, ha, hs, Ext.refl _ _⟩
    | ret =>
      simp only [ev, T.sel, Option.some.injEq, Prod.mk.injEq] at h
      obtain ⟨rfl, rfl, rfl⟩ := h
      exact wp_ret ⟨φ, trivial, ha, hs, Ext.refl _ _⟩
    | exit id =>
      simp only [ev, T.sel, Option.some.injEq, Prod.mk.injEq] at h
      obtain ⟨rfl, rfl, rfl⟩ := h
      exact wp_exit ⟨φ, rfl, ha, hs, Ext.refl _ _⟩
    | region id ops draw =>
      cases draw with
      | true =>
        simp only [ev] at h
        split at h
        · rename_i hlex0
          have hlex : Region.lexB .any ops = true := by simp only [Bool.and_eq_true] at hlex0; exact hlex0.1
          rw [T.sel_bind] at h
          cases hr : (runQ P (callE P sm (ev P sm n)) ops ops.toList a st).sel η with
          | none => rw [hr] at h; simp at h
          | some q =>
            obtain ⟨a1, st1⟩ := q
            rw [hr] at h
            simp only [Option.bind_some, T.sel, Option.some.injEq, Prod.mk.injEq] at h
            obtain ⟨rfl, rfl, rfl⟩ := h
            have hb0 : Below W.heap.size W { W with drawn := W.drawn + 1 } := ⟨rfl, rfl, rfl, Nat.le_refl _, fun _ _ => rfl⟩
            refine wp_region_quiet hM hlex hb0 (runQ_ok hP (callE_ok hsm ih) ops _ _ _ _ _ hr A _ ha hs ?_)
            intro A' ha' hs' w' hw'
            exact ⟨φ, trivial, ha', hs'.below hw', ⟨Mono.refl φ, fun k b s h h' => by simp [h] at h', hw'.os, hw'.tape, hw'.output, hw'.size, fun b hb _ => hw'.block b hb⟩⟩
        · split at h
          · rename_i hlex
            rw [T.sel_bind] at h
            cases hr : (runQ P (callE P sm (ev P sm n)) ops (ops.toList.take (tailAt ops.toList)) a st).sel η with
            | none => rw [hr] at h; simp at h
            | some q =>
              obtain ⟨a1, st1⟩ := q
              rw [hr] at h
              simp only [Option.bind_some] at h
              rw [T.sel_bind] at h
              cases hr2 : (runOps P (callE P sm (ev P sm n)) ops (ops.toList.drop (tailAt ops.toList)) a1 st1).sel η with
              | none => rw [hr2] at h; simp at h
              | some q2 =>
                obtain ⟨a2, st2⟩ := q2
                rw [hr2] at h
                simp only [Option.bind_some, T.sel, Option.some.injEq, Prod.mk.injEq] at h
                obtain ⟨rfl, rfl, rfl⟩ := h
                have hb0 : Below W.heap.size W { W with drawn := W.drawn + 1 } := ⟨rfl, rfl, rfl, Nat.le_refl _, fun _ _ => rfl⟩
                have e : ops = ops.toList.toArray := (Array.toArray_toList (xs := ops)).symm
                have main := wp_region_quiet_tail (id := id) (C := Below W.heap.size W) (l := ops.toList) (a := A) (w := W) (Q := Post η φ W .normal a2 st2) (tailAt ops.toList) hM (by rw [← e]; exact hlex) hb0 (by
                  rw [← e]
                  refine runQ_ok hP (callE_ok hsm ih) ops _ _ _ _ _ hr A _ ha hs ?_
                  intro A' ha' hs' w' hw'
                  have hx : Ext φ φ W w' := ⟨Mono.refl φ, fun k b s h h' => by simp [h] at h', hw'.os, hw'.tape, hw'.output, hw'.size, fun b hb _ => hw'.block b hb⟩
                  exact runOps_ok hP (callE_ok hsm ih) ops _ _ _ _ _ hr2 φ A' w' _ ha' (hs'.below hw') (fun φ' A2 W2 g1 g2 g3 => ⟨φ', trivial, g1, g2, hx.trans g3⟩))
                rw [← e] at main
                exact main
          · split at h
            · rename_i hmix
              split at h
              case h_2 => simp [T.sel] at h
              rename_i a0 l hpre hpick
              rw [T.sel_bind] at h
              cases hr : (runQ P (callE P sm (ev P sm n)) ops l a0 st).sel η with
              | none => rw [hr] at h; simp at h
              | some q =>
                obtain ⟨a1, st1⟩ := q
                rw [hr] at h
                simp only [Option.bind_some] at h
                rw [T.sel_bind] at h
                cases hr2 : (runOps P (callE P sm (ev P sm n)) ops (ops.toList.drop (tailAt ops.toList)) a1 st1).sel η with
                | none => rw [hr2] at h; simp at h
                | some q2 =>
                  obtain ⟨a2, st2⟩ := q2
                  rw [hr2] at h
                  simp only [Option.bind_some, T.sel, Option.some.injEq, Prod.mk.injEq] at h
                  obtain ⟨rfl, rfl, rfl⟩ := h
                  have hb0 : Below W.heap.size W { W with drawn := W.drawn + 1 } := ⟨rfl, rfl, rfl, Nat.le_refl _, fun _ _ => rfl⟩
                  have e : ops = ops.toList.toArray := (Array.toArray_toList (xs := ops)).symm
                  have ha0 := runPre_ar ops (mixPre ops) _ _ A ha hpre
                  have main := wp_region_mixed (id := id) (C := Below W.heap.size W) (l := ops.toList) (a := A) (w := W) (Q := Post η φ W .normal a2 st2) (tailAt ops.toList) (mixPre ops) (mixHead ops) hM (by rw [← e]; exact hmix) hb0
                    (fun c d v a w hq => by obtain ⟨_, hx, _⟩ := hq; exact hx.elim) (by
                    rw [← e]
                    refine wpQuietI_of _ l _ hpick (runQ_ok hP (callE_ok hsm ih) ops _ _ _ _ _ hr _ _ ha0 hs ?_)
                    intro A' ha' hs' w' hw'
                    have hx : Ext φ φ W w' := ⟨Mono.refl φ, fun k b s h h' => by simp [h] at h', hw'.os, hw'.tape, hw'.output, hw'.size, fun b hb _ => hw'.block b hb⟩
                    exact runOps_ok hP (callE_ok hsm ih) ops _ _ _ _ _ hr2 φ A' w' _ ha' (hs'.below hw') (fun φ' A2 W2 g1 g2 g3 => ⟨φ', trivial, g1, g2, hx.trans g3⟩))
                  rw [← e] at main
                  exact main
            · simp [T.sel] at h
      | false =>
        simp only [ev] at h
        rw [T.sel_bind] at h
        cases hr : (runOps P (callE P sm (ev P sm n)) ops ops.toList a st).sel η with
        | none => rw [hr] at h; simp at h
        | some q =>
          obtain ⟨a1, st1⟩ := q
          rw [hr] at h
          simp only [Option.bind_some, T.sel, Option.some.injEq, Prod.mk.injEq] at h
          obtain ⟨rfl, rfl, rfl⟩ := h
          exact wp_region_list (runOps_ok hP (callE_ok hsm ih) ops _ _ _ _ _ hr φ A W _ ha hs (fun φ' A' W' g1 g2 g3 => ⟨φ', trivial, g1, g2, g3⟩))
    | seq y z =>
      simp only [ev] at h
      rw [T.sel_bind] at h
      cases hr : (ev P sm n y a st).sel η with
      | none => rw [hr] at h; simp at h
      | some q =>
        obtain ⟨x1, a1, st1⟩ := q
        rw [hr] at h
        simp only [Option.bind_some] at h
        refine wp_seq (wp_mono (ih y a st x1 a1 st1 hr φ A W ha hs) ?_)
        rintro e A1 W1 ⟨φ1, hx, ha1, hs1, he1⟩
        cases x1 <;> cases e <;> simp [XR] at hx
        · show z.wp P _ A1 W1
          refine wp_mono (ih z a1 st1 x a' st' h φ1 A1 W1 ha1 hs1) ?_
          rintro e2 A2 W2 ⟨φ2, k1, k2, k3, k4⟩
          exact ⟨φ2, k1, k2, k3, he1.trans k4⟩
        · subst hx
          simp only [T.sel, Option.some.injEq, Prod.mk.injEq] at h
          obtain ⟨rfl, rfl, rfl⟩ := h
          exact ⟨φ1, rfl, ha1, hs1, he1⟩
        · simp only [T.sel, Option.some.injEq, Prod.mk.injEq] at h
          obtain ⟨rfl, rfl, rfl⟩ := h
          exact ⟨φ1, trivial, ha1, hs1, he1⟩
    | cond c y z =>
      simp only [ev] at h
      split at h
      · rename_i b hb
        obtain ⟨st1, h', hs'⟩ := br_sel hs h
        have hc := evalO_vr ha hb
        generalize hcv : A.eval c = cv at hc
        cases hc
        exact wp_cond hcv (ih _ a st1 x a' st' h' φ A W ha hs')
      · simp [T.sel] at h
    | block id b =>
      simp only [ev] at h
      rw [T.sel_bind] at h
      cases hr : (ev P sm n b a st).sel η with
      | none => rw [hr] at h; simp at h
      | some q =>
        obtain ⟨x1, a1, st1⟩ := q
        rw [hr] at h
        simp only [Option.bind_some] at h
        refine wp_block (wp_mono (ih b a st x1 a1 st1 hr φ A W ha hs) ?_)
        rintro e A1 W1 ⟨φ1, hx, ha1, hs1, he1⟩
        cases x1 <;> cases e <;> simp [XR] at hx
        · simp only [T.sel, Option.some.injEq, Prod.mk.injEq] at h
          obtain ⟨rfl, rfl, rfl⟩ := h
          exact ⟨φ1, trivial, ha1, hs1, he1⟩
        · subst hx
          rename_i id1
          show (if id1 = id then _ else _)
          have h' : (if id1 = id then T.ret (X.normal, a1, st1) else T.ret (X.exit id1, a1, st1)).sel η = some (x, a', st') := h
          by_cases hid : id1 = id
          · rw [if_pos hid] at h' ⊢
            simp only [T.sel, Option.some.injEq, Prod.mk.injEq] at h'
            obtain ⟨rfl, rfl, rfl⟩ := h'
            exact ⟨φ1, trivial, ha1, hs1, he1⟩
          · rw [if_neg hid] at h' ⊢
            simp only [T.sel, Option.some.injEq, Prod.mk.injEq] at h'
            obtain ⟨rfl, rfl, rfl⟩ := h'
            exact ⟨φ1, rfl, ha1, hs1, he1⟩
        · simp only [T.sel, Option.some.injEq, Prod.mk.injEq] at h
          obtain ⟨rfl, rfl, rfl⟩ := h
          exact ⟨φ1, trivial, ha1, hs1, he1⟩
    | _ => simp [ev, T.sel] at h

end
end Go.Proofs.Ytloihfdiabbcpaa.Sx
