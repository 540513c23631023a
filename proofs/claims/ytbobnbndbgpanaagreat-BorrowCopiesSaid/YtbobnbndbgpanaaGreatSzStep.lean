/- One operation, or a call, with what it comes to; operations in a row; guards. -/
import Derived.Test.YtbobnbndbgpanaaGreatSzQuiet
namespace Go.Proofs.YtbobnbndbgpanaaGreat.Sx
open Go Go.RowKit
set_option linter.unusedVariables false
set_option linter.unusedSimpArgs false
noncomputable section

/-- What a call comes to. -/
inductive CR where
  | ret (v : V)
  | pan (v : V)
abbrev CallF := FuncId → List V → St → T (CR × St)
/-- What a row of operations comes to. -/
inductive Ox where
  | ok (a : Regs) (st : St)
  | pan (v : V) (a : Regs) (st : St)
def PR (η : Env) (φ : Place) (v : V) (ch : List PanicEntry) : Prop :=
  ∃ v' older, ch = { v := v', recovered := false } :: older ∧ (∀ e ∈ older, e.goexit = false) ∧ VR η φ v v'
theorem PR.mono {η : Env} {φ φ' : Place} (m : Mono φ φ') {v : V} {ch : List PanicEntry} (h : PR η φ v ch) : PR η φ' v ch := by
  obtain ⟨v', older, h1, h2, h3⟩ := h; exact ⟨v', older, h1, h2, h3.mono m⟩
def CE (η : Env) (φ : Place) : CR → Ending → Prop
  | .ret v, e => ∃ v', e = .returned v' ∧ VR η φ v v'
  | .pan v, e => ∃ ch, e = .panicked ch ∧ PR η φ v ch
def CallOk (η : Env) (P : Program) (call : CallF) : Prop :=
  ∀ f args st c st', (call f args st).sel η = some (c, st') → ∀ φ args' W, VRs η φ args args' → SR η φ st W →
    Calls P f args'.toArray W fun e W' => ∃ φ', CE η φ' c e ∧ SR η φ' st' W' ∧ Ext φ φ' W W'

def putV (a : Regs) (d : Option Tmp) (v : V) : Regs :=
  match d with
  | some d => a.set d v
  | none => a
def slotOf (ops : Array Oper) (j : Nat) : Option Tmp :=
  match ops[j]? with
  | some o => o.dst
  | none => none

section
variable {η : Env} {P : Program}
theorem put_ar {φ : Place} {a : Regs} {A : Act} (h : AR η φ a A) (d : Option Tmp) {v : V} {v' : Value} (hv : VR η φ v v') : AR η φ (putV a d v) (A.put d v') := by
  cases d with
  | none => exact h
  | some d =>
    refine ⟨by simp [putV, Act.put, Regs.size_set, h.size], by simp [putV, Regs.size_set, h.small], fun t => ?_, by simpa [putV, Regs.defs_set, Act.put] using h.defers⟩
    simp only [putV, Act.put]
    rw [Regs.get_set _ h.small]
    split
    · rename_i e
      obtain ⟨e1, rfl⟩ := e
      rw [h.size] at e1
      simpa [Array.getD, e1] using hv
    · rename_i e
      have := h.tmps t
      by_cases e1 : t = d
      · subst e1
        have e2 : ¬ t < A.tmps.size := fun q => e ⟨by rw [h.size]; exact q, rfl⟩
        simpa [Array.getD, e2] using this
      · have e3 : (A.tmps.setIfInBounds d v').getD t undef = A.tmps.getD t undef := by
          simp only [Array.getD_eq_getD_getElem?]
          rw [Array.getElem?_setIfInBounds_ne (by omega)]
        first | simpa [e3] using this | simpa using this
theorem regs_at {φ : Place} {a : Regs} {A : Act} (h : AR η φ a A) {d : Nat} {b : B} (e : a.get d = .bool b) : ∃ v', A.tmps[d]? = some v' ∧ VR η φ (.bool b) v' := by
  have h1 := h.tmps d
  rw [e] at h1
  cases hd : A.tmps[d]? with
  | none => rw [Array.getD_eq_getD_getElem?, hd] at h1; cases h1
  | some v' => exact ⟨v', rfl, by simpa [Array.getD_eq_getD_getElem?, hd] using h1⟩
theorem set_ar {φ : Place} {a : Regs} {A : Act} (h : AR η φ a A) {d : Nat} {b : B} (e : A.tmps[d]? = some (.bool (b.den η))) : AR η φ (a.set d (.bool (.lit (b.den η)))) A := by
  refine ⟨by rw [Regs.size_set]; exact h.size, by rw [Regs.size_set]; exact h.small, fun t => ?_, by rw [Regs.defs_set]; exact h.defers⟩
  rw [Regs.get_set _ h.small]
  split
  · rename_i q
    obtain ⟨_, rfl⟩ := q
    rw [Array.getD_eq_getD_getElem?, e]
    exact .bool (.lit (b.den η))
  · exact h.tmps t

/-! ### Guards -/
def WantV (η : Env) (ops : Array Oper) (a : Regs) (o : Oper) : Prop :=
  o.guard = none ∨ ∃ j want d b, o.guard = some (j, want) ∧ slotOf ops j = some d ∧ a.get d = .bool b ∧ b.den η = want
def UnwV (η : Env) (ops : Array Oper) (a : Regs) (o : Oper) : Prop :=
  ∃ j want d, o.guard = some (j, want) ∧ slotOf ops j = some d ∧ ((∃ b, a.get d = .bool b ∧ b.den η ≠ want) ∨ a.get d = .tuple [])
theorem slot_yield {ops : Array Oper} {j : Nat} {d : Tmp} (hd : slotOf ops j = some d) (A : Act) : yielded ops A.tmps j = (match A.tmps[d]? with | some (.bool b) => some b | _ => none) := by
  unfold slotOf at hd
  split at hd
  · rename_i oj hj
    unfold yielded
    rw [hj]
    simp only [Option.bind_some, hd]
    cases A.tmps[d]? with
    | none => rfl
    | some v => cases v <;> rfl
  · simp at hd
theorem want_ok {φ : Place} {ops : Array Oper} {a : Regs} {A : Act} {o : Oper} (h : AR η φ a A) (hw : WantV η ops a o) : Region.wanted o (yielded ops A.tmps) = true := by
  rcases hw with hg | ⟨j, want, d, b, hg, hd, hb, hbw⟩
  · simp [Region.wanted, hg]
  · obtain ⟨v', h1, h2⟩ := regs_at h hb
    cases h2
    simp [Region.wanted, hg, slot_yield hd, h1, hbw]
theorem unw_ok {φ : Place} {ops : Array Oper} {a : Regs} {A : Act} {o : Oper} (h : AR η φ a A) (hw : UnwV η ops a o) : Region.wanted o (yielded ops A.tmps) = false := by
  obtain ⟨j, want, d, hg, hd, hb⟩ := hw
  rcases hb with ⟨b, hb, hbw⟩ | hb
  · obtain ⟨v', h1, h2⟩ := regs_at h hb
    cases h2
    simp [Region.wanted, hg, slot_yield hd, h1, hbw]
  · have h2 := h.tmps d
    rw [hb] at h2
    simp only [Region.wanted, hg, slot_yield hd]
    cases h1 : A.tmps[d]? with
    | none => simp
    | some v' =>
      rw [Array.getD_eq_getD_getElem?, h1] at h2
      cases h2 with
      | tuple _ cs' hcs => simp

/-! ### One operation, with the call that it may be -/
/-- What an operation comes to: a value in its place, or a panic. -/
inductive W1 where
  | val (v : V) (st : St)
  | pan (v : V) (st : St)
  | put (f : FuncId) (args : List V) (st : St)
def oneE (P : Program) (call : CallF) (a : Regs) (st : St) (o : Oper) : T W1 :=
  (opE P a st o).bind fun r => match r with
    | .val v st => .ret (.val v st)
    | .skip st => .ret (.val undefV st)
    | .enter f args st => (call f args st).bind fun r => match r.1 with
      | .ret v => .ret (.val v r.2)
      | .pan v => .ret (.pan v r.2)
    | .defer f args st => .ret (.put f args st)
    | .panic v st => .ret (.pan v st)
    | .recover _ => .fail 69
/-- What the model's operation comes to, then. -/
def OneOk (η : Env) (P : Program) (φ : Place) (W : World) (r : W1) (res : Result Next) : Prop :=
  match r with
  | .val v st =>
    (∃ v' W' φ', res = .ok (.value v') W' ∧ VR η φ' v v' ∧ SR η φ' st W' ∧ Ext φ φ' W W') ∨
    (v = undefV ∧ ∃ W' φ', res = .ok .skip W' ∧ SR η φ' st W' ∧ Ext φ φ' W W') ∨
    (∃ f args W1, res = .ok (.enter f args) W1 ∧ Calls P f args W1 fun e W' => ∃ φ' v', e = .returned v' ∧ VR η φ' v v' ∧ SR η φ' st W' ∧ Ext φ φ' W W')
  | .pan v st =>
    (∃ v' W' φ', res = .halt (.panic v') W' ∧ VR η φ' v v' ∧ SR η φ' st W' ∧ Ext φ φ' W W') ∨
    (∃ f args W1, res = .ok (.enter f args) W1 ∧ Calls P f args W1 fun e W' => ∃ φ' ch, e = .panicked ch ∧ PR η φ' v ch ∧ SR η φ' st W' ∧ Ext φ φ' W W')
  | .put f args st => ∃ d W' φ', res = .ok (.defer d) W' ∧ DR η φ' ⟨f, args⟩ d ∧ SR η φ' st W' ∧ Ext φ φ' W W'
theorem oneE_ok (hP : Plain P) {call : CallF} (hcall : CallOk η P call) {φ : Place} {W : World} {a : Regs} {A : Act} {st : St} {o : Oper} {r : W1} (ha : AR η φ a A) (hs : SR η φ st W)
    (h : (oneE P call a st o).sel η = some r) : OneOk η P φ W r ((execOp A.eval o).run P W) := by
  unfold oneE at h
  rw [T.sel_bind] at h
  cases hr : (opE P a st o).sel η with
  | none => rw [hr] at h; simp at h
  | some r0 =>
    rw [hr] at h
    simp only [Option.bind_some] at h
    have hres := opE_ok hP ha hs hr
    cases r0 with
    | val v st1 => simp only [T.sel, Option.some.injEq] at h; subst h; exact .inl hres
    | skip st1 =>
      simp only [T.sel, Option.some.injEq] at h; subst h
      obtain ⟨W1, φ1, h1, h3, h4⟩ := hres
      exact .inr (.inl ⟨rfl, W1, φ1, h1, h3, h4⟩)
    | enter f args st1 =>
      obtain ⟨args', W1, φ1, h1, h2, h3, h4⟩ := hres
      simp only at h
      rw [T.sel_bind] at h
      cases hc : (call f args st1).sel η with
      | none => rw [hc] at h; simp at h
      | some q =>
        obtain ⟨c, st2⟩ := q
        rw [hc] at h
        simp only [Option.bind_some] at h
        have hcs := hcall f args st1 c st2 hc φ1 _ W1 h2 h3
        rw [Array.toArray_toList] at hcs
        cases c with
        | ret v =>
          simp only [T.sel, Option.some.injEq] at h; subst h
          refine .inr (.inr ⟨f, args', W1, h1, hcs.mono ?_⟩)
          rintro e W2 ⟨φ2, ⟨v', rfl, g1⟩, g2, g3⟩
          exact ⟨φ2, v', rfl, g1, g2, h4.trans g3⟩
        | pan v =>
          simp only [T.sel, Option.some.injEq] at h; subst h
          refine .inr ⟨f, args', W1, h1, hcs.mono ?_⟩
          rintro e W2 ⟨φ2, ⟨ch, rfl, g1⟩, g2, g3⟩
          exact ⟨φ2, ch, rfl, g1, g2, h4.trans g3⟩
    | defer f args st1 => simp only [T.sel, Option.some.injEq] at h; subst h; exact hres
    | panic v st1 => simp only [T.sel, Option.some.injEq] at h; subst h; exact .inl hres
    | recover st1 => simp [T.sel] at h
/-- A value in its place. -/
theorem OneOk.val {φ : Place} {W : World} {v : V} {st : St} {A : Act} {o : Oper} {K : Act → World → Prop} {Q : Exit → Act → World → Prop} (h : OneOk η P φ W (.val v st) ((execOp A.eval o).run P W))
    (hK : ∀ φ' v' W', VR η φ' v v' → SR η φ' st W' → Ext φ φ' W W' → K (A.put o.dst v') W') : o.wp P A W K Q := by
  unfold Oper.wp
  rcases h with ⟨v', W', φ', h1, h2, h3, h4⟩ | ⟨rfl, W', φ', h1, h3, h4⟩ | ⟨f, args, W1, h1, h2⟩
  · rw [h1]; exact hK φ' v' W' h2 h3 h4
  · rw [h1]; exact hK φ' undef W' undef_vr h3 h4
  · rw [h1]
    refine h2.mono ?_
    rintro e W2 ⟨φ2, v', rfl, g1, g2, g3⟩
    exact hK φ2 v' W2 g1 g2 g3
theorem OneOk.pan {φ : Place} {W : World} {v : V} {st : St} {A : Act} {o : Oper} {K : Act → World → Prop} {Q : Exit → Act → World → Prop} (h : OneOk η P φ W (.pan v st) ((execOp A.eval o).run P W))
    (hQ : ∀ φ' ch W', PR η φ' v ch → SR η φ' st W' → Ext φ φ' W W' → Q (.panic ch) A W') : o.wp P A W K Q := by
  unfold Oper.wp
  rcases h with ⟨v', W', φ', h1, h2, h3, h4⟩ | ⟨f, args, W1, h1, h2⟩
  · rw [h1]; exact hQ φ' _ W' ⟨v', [], rfl, by simp, h2⟩ h3 h4
  · rw [h1]
    refine h2.mono ?_
    rintro e W2 ⟨φ2, ch, rfl, g1, g2, g3⟩
    exact hQ φ2 ch W2 g1 g2 g3

/-! ### Operations in a row -/
def pushD (a : Regs) (f : FuncId) (args : List V) : Regs := ⟨a.size, a.tab, ⟨f, args⟩ :: a.defs⟩
theorem pushD_ar {φ : Place} {a : Regs} {A : Act} {f : FuncId} {args : List V} {d : Deferred} (h : AR η φ a A) (hd : DR η φ ⟨f, args⟩ d) : AR η φ (pushD a f args) { A with defers := d :: A.defers } :=
  ⟨h.size, h.small, h.tmps, .cons _ _ _ _ hd h.defers⟩
def runOps (P : Program) (call : CallF) (ops : Array Oper) : List Oper → Regs → St → T Ox
  | [], a, st => .ret (.ok a st)
  | o :: rest, a, st =>
    let go (a : Regs) (st : St) : T Ox :=
      (oneE P call a st o).bind fun r => match r with
        | .val v st => runOps P call ops rest (putV a o.dst v) st
        | .pan v st => .ret (.pan v a st)
        | .put f args st => runOps P call ops rest (putV (pushD a f args) o.dst undefV) st
    match o.guard with
    | none => go a st
    | some (j, want) => match slotOf ops j with
      | none => .fail 70
      | some d => match a.get d with
        | .bool b => br st b fun t st =>
          if t = want then go (a.set d (.bool (.lit t))) st
          else runOps P call ops rest (putV (a.set d (.bool (.lit t))) o.dst undefV) st
        | .tuple [] => runOps P call ops rest (putV a o.dst undefV) st
        | _ => .fail 71
/-- What a row of operations comes to, in the model. -/
def OxPost (η : Env) (φ : Place) (W : World) (ox : Ox) (Q : Exit → Act → World → Prop) : Prop :=
  match ox with
  | .ok a st => ∀ φ' A' W', AR η φ' a A' → SR η φ' st W' → Ext φ φ' W W' → Q .normal A' W'
  | .pan v a st => ∀ φ' A' W' ch, PR η φ' v ch → AR η φ' a A' → SR η φ' st W' → Ext φ φ' W W' → Q (.panic ch) A' W'
theorem OxPost.ext {φ φ' : Place} {W W' : World} {ox : Ox} {Q : Exit → Act → World → Prop} (h : OxPost η φ W ox Q) (x : Ext φ φ' W W') : OxPost η φ' W' ox Q := by
  cases ox with
  | ok a st => exact fun φ2 A2 W2 g1 g2 g3 => h φ2 A2 W2 g1 g2 (x.trans g3)
  | pan v a st => exact fun φ2 A2 W2 ch g0 g1 g2 g3 => h φ2 A2 W2 ch g0 g1 g2 (x.trans g3)
theorem runOps_ok (hP : Plain P) {call : CallF} (hcall : CallOk η P call) (ops : Array Oper) :
    ∀ (l : List Oper) (a : Regs) (st : St) (ox : Ox), (runOps P call ops l a st).sel η = some ox →
    ∀ (φ : Place) (A : Act) (W : World) (Q : Exit → Act → World → Prop), AR η φ a A → SR η φ st W → OxPost η φ W ox Q → wpList P ops Q l A W := by
  intro l
  induction l with
  | nil =>
    intro a st ox h φ A W Q ha hs hq
    simp only [runOps, T.sel, Option.some.injEq] at h
    subst h
    exact hq φ A W ha hs (Ext.refl _ _)
  | cons o rest ih =>
    intro a st ox h φ A W Q ha hs hq
    have hgo : ∀ (a : Regs) (st : St), AR η φ a A → SR η φ st W →
        ((oneE P call a st o).bind fun r => match r with
          | .val v st => runOps P call ops rest (putV a o.dst v) st
          | .pan v st => .ret (.pan v a st)
          | .put f args st => runOps P call ops rest (putV (pushD a f args) o.dst undefV) st).sel η = some ox →
        o.wp P A W (wpList P ops Q rest) Q := by
      intro a st ha hs h
      rw [T.sel_bind] at h
      cases hr : (oneE P call a st o).sel η with
      | none => rw [hr] at h; simp at h
      | some r =>
        rw [hr] at h
        simp only [Option.bind_some] at h
        have hres := oneE_ok hP hcall ha hs hr
        cases r with
        | val v st1 => exact hres.val fun φ' v' W' g1 g2 g3 => ih _ _ _ h φ' _ W' Q (put_ar (ha.mono g3.mono) _ g1) g2 (hq.ext g3)
        | pan v st1 =>
          simp only [T.sel, Option.some.injEq] at h; subst h
          exact hres.pan fun φ' ch W' g1 g2 g3 => hq φ' A W' ch g1 (ha.mono g3.mono) g2 g3
        | put f args st1 =>
          obtain ⟨d, W1, φ1, h1, h2, h3, h4⟩ := hres
          unfold Oper.wp
          rw [h1]
          exact ih _ _ _ h φ1 _ W1 Q (put_ar (pushD_ar (ha.mono h4.mono) h2) _ undef_vr) h3 (hq.ext h4)
    have hskip : ∀ (a : Regs) (st : St), AR η φ a A → SR η φ st W → (runOps P call ops rest (putV a o.dst undefV) st).sel η = some ox →
        wpList P ops Q rest (A.put o.dst undef) W := by
      intro a st ha hs h
      exact ih _ _ _ h φ _ W Q (put_ar ha _ undef_vr) hs hq
    unfold runOps at h
    unfold wpList
    split at h
    · rename_i hg
      rw [if_pos (want_ok ha (.inl hg))]
      exact .inl (hgo a st ha hs h)
    · rename_i j want hg
      split at h
      · simp [T.sel] at h
      · rename_i d hd
        split at h
        · rename_i b hb
          obtain ⟨v', h1, h2⟩ := regs_at ha hb
          cases h2
          obtain ⟨st1, h', hs'⟩ := br_sel hs h
          have ha' : AR η φ (a.set d (.bool (.lit (b.den η)))) A := set_ar ha h1
          by_cases hw : b.den η = want
          · rw [if_pos hw] at h'
            rw [if_pos (want_ok ha (.inr ⟨j, want, d, b, hg, hd, hb, hw⟩))]
            exact .inl (hgo _ _ ha' hs' h')
          · rw [if_neg hw] at h'
            rw [if_neg (by rw [unw_ok ha ⟨j, want, d, hg, hd, .inl ⟨b, hb, hw⟩⟩]; simp)]
            exact hskip _ _ ha' hs' h'
        · rename_i hb
          rw [if_neg (by rw [unw_ok ha ⟨j, want, d, hg, hd, .inr hb⟩]; simp)]
          exact hskip _ _ ha hs h
        · simp [T.sel] at h
end
end
end Go.Proofs.YtbobnbndbgpanaaGreat.Sx
