/- The executor's operations: plain ones, and those on memory. -/
import Derived.Test.YtbobnbndbgpanaaGreatSzState
namespace Go.Proofs.YtbobnbndbgpanaaGreat.Sx
open Go
set_option linter.unusedVariables false
set_option linter.unusedSimpArgs false
noncomputable section

def undefV : V := .tuple []
def evalO (a : Regs) : Operand → Option V
  | .tmp t => some (a.get t)
  | .const v => ofVal v
  | .func f => some (.func (.func f) [] [])
  | .global _ => none

/-- A call that was put off, in the model. -/
def DR (η : Env) (φ : Place) (d : Dfr) (D : Deferred) : Prop := ∃ cap, D.target = .fn (.func d.fn) cap ∧ VRs η φ d.args (D.args.toList ++ cap.toList)
inductive DRs (η : Env) (φ : Place) : List Dfr → List Deferred → Prop where
  | nil : DRs η φ [] []
  | cons (d : Dfr) (D : Deferred) (l : List Dfr) (l' : List Deferred) (h : DR η φ d D) (t : DRs η φ l l') : DRs η φ (d :: l) (D :: l')
theorem DRs.mono {η : Env} {φ φ' : Place} (m : Mono φ φ') : ∀ {l : List Dfr} {l' : List Deferred}, DRs η φ l l' → DRs η φ' l l'
  | _, _, .nil => .nil
  | _, _, .cons d D l l' ⟨cap, h1, h2⟩ t => .cons d D l l' ⟨cap, h1, h2.mono m⟩ (DRs.mono m t)
structure AR (η : Env) (φ : Place) (a : Regs) (A : Act) : Prop where
  size : a.size = A.tmps.size
  small : a.size ≤ 400
  tmps : ∀ t, VR η φ (a.get t) (A.tmps.getD t undef)
  defers : DRs η φ a.defs A.defers
theorem AR.mono {η : Env} {φ φ' : Place} (m : Mono φ φ') {a : Regs} {A : Act} (h : AR η φ a A) : AR η φ' a A := ⟨h.size, h.small, fun t => (h.tmps t).mono m, h.defers.mono m⟩

theorem undef_vr {η : Env} {φ : Place} : VR η φ undefV undef := .tuple [] [] .nil
theorem evalO_vr {η : Env} {φ : Place} {a : Regs} {A : Act} (h : AR η φ a A) {x : Operand} {v : V} (e : evalO a x = some v) : VR η φ v (A.eval x) := by
  cases x with
  | tmp t =>
    simp only [evalO, Option.some.injEq] at e
    subst e
    simp only [Act.eval]
    exact h.tmps t
  | const v' => exact ofVal_vr e
  | global g => simp [evalO] at e
  | func f => simp only [evalO, Option.some.injEq] at e; subst e; exact .func _ [] [] [] [] .nil .nil

/-- An operation that leaves memory as it is: it yields a value. -/
inductive R where
  | val (v : V) (st : St)
  | skip (st : St)
  | enter (f : FuncId) (args : List V) (st : St)
  | defer (f : FuncId) (args : List V) (st : St)
  | panic (v : V) (st : St)
  | recover (st : St)

def ResOk (η : Env) (φ : Place) (W : World) (r : R) (res : Result Next) : Prop :=
  match r with
  | .val v st => ∃ v' W' φ', res = .ok (.value v') W' ∧ VR η φ' v v' ∧ SR η φ' st W' ∧ Ext φ φ' W W'
  | .skip st => ∃ W' φ', res = .ok .skip W' ∧ SR η φ' st W' ∧ Ext φ φ' W W'
  | .enter f args st => ∃ args' W' φ', res = .ok (.enter f args') W' ∧ VRs η φ' args args'.toList ∧ SR η φ' st W' ∧ Ext φ φ' W W'
  | .defer f args st => ∃ d W' φ', res = .ok (.defer d) W' ∧ DR η φ' ⟨f, args⟩ d ∧ SR η φ' st W' ∧ Ext φ φ' W W'
  | .panic v st => ∃ v' W' φ', res = .halt (.panic v') W' ∧ VR η φ' v v' ∧ SR η φ' st W' ∧ Ext φ φ' W W'
  | .recover st => ∃ W' φ', res = .ok .recover W' ∧ SR η φ' st W' ∧ Ext φ φ' W W'

def ResF (η : Env) (φ : Place) (W : World) (r : R) (res : Result Next) : Prop :=
  ∃ v st v', r = .val v st ∧ res = .ok (.value v') W ∧ VR η φ v v' ∧ SR η φ st W
section
variable {η : Env} {φ : Place} {W : World} {P : Program}
theorem ResF.here {v : V} {v' : Value} {st : St} {res : Result Next} (he : res = .ok (.value v') W) (hv : VR η φ v v') (hs : SR η φ st W) : ResF η φ W (.val v st) res :=
  ⟨v, st, v', rfl, he, hv, hs⟩
theorem ResF.ok {r : R} {res : Result Next} (h : ResF η φ W r res) : ResOk η φ W r res := by
  obtain ⟨v, st, v', rfl, he, hv, hs⟩ := h
  exact ⟨v', W, φ, he, hv, hs, Ext.refl _ _⟩
theorem ResOk.here {v : V} {v' : Value} {st : St} {res : Result Next} (he : res = .ok (.value v') W) (hv : VR η φ v v') (hs : SR η φ st W) : ResOk η φ W (.val v st) res :=
  ⟨v', W, φ, he, hv, hs, Ext.refl _ _⟩

/-! ### Types -/
def szOf (P : Program) (t : TypeId) : Option Nat := (P.info? t).map (·.size)
def aggOf (P : Program) (t : TypeId) : Option Bool := (P.underlying t).map fun | .struct _ | .array _ _ => true | _ => false
def zeroOf (P : Program) (t : TypeId) : Option V :=
  match P.info? t with
  | some i => match i.zero with
    | some z => ofVal z
    | none => none
  | none => none
theorem run_sizeOf {t : TypeId} {n : Nat} (h : szOf P t = some n) (W : World) : (sizeOf t).run P W = .ok n W := by
  unfold szOf at h
  cases hi : P.info? t with
  | none => simp [hi] at h
  | some i => simp [hi] at h; simp [sizeOf, typeInfo, hi, h]
theorem run_isAgg {t : TypeId} {b : Bool} (h : aggOf P t = some b) (W : World) : (isAgg t).run P W = .ok b W := by
  unfold aggOf at h
  cases hu : P.underlying t with
  | none => simp [hu] at h
  | some d => simp [hu] at h; unfold isAgg; rw [Sem.run_bind, run_underlying hu W]; cases d <;> simp_all
theorem run_zero {t : TypeId} {v : V} (h : zeroOf P t = some v) (W : World) : ∃ z, (zeroValue t).run P W = .ok z W ∧ ∀ (η : Env) (φ : Place), VR η φ v z := by
  unfold zeroOf at h
  split at h
  · rename_i i hi
    split at h
    · rename_i z hz
      exact ⟨z, by simp [zeroValue, typeInfo, hi, hz], fun η φ => ofVal_vr h⟩
    · simp at h
  · simp at h

/-! ### move, assign, pick -/
def opMove (a : Regs) (st : St) (x : Operand) : T R := T.opt 1 ((evalO a x).map fun v => .val v st)
theorem opMove_ok {a : Regs} {A : Act} {st : St} {x : Operand} {r : R} (ha : AR η φ a A) (hs : SR η φ st W) (h : (opMove a st x).sel η = some r) :
    ResF η φ W r (.ok (.value (A.eval x)) W) := by
  unfold opMove at h
  rw [T.sel_opt] at h
  cases hv : evalO a x with
  | none => simp [hv] at h
  | some v => simp [hv] at h; subst h; exact ResF.here rfl (evalO_vr ha hv) hs

def opPick (a : Regs) (st : St) (c x y : Operand) : T R :=
  match evalO a c with
  | some (.bool b) => br st b fun t st => opMove a st (if t then x else y)
  | _ => .fail 2
theorem opPick_ok {a : Regs} {A : Act} {st : St} {c x y : Operand} {r : R} (ha : AR η φ a A) (hs : SR η φ st W) (h : (opPick a st c x y).sel η = some r) :
    ResF η φ W r ((do pure (.value (if ← asBool (A.eval c) then A.eval x else A.eval y)) : Sem Next).run P W) := by
  unfold opPick at h
  split at h
  · rename_i b hb
    obtain ⟨st', h', hs'⟩ := br_sel hs h
    have hc := evalO_vr ha hb
    have hm := opMove_ok ha hs' h'
    generalize hcv : A.eval c = cv at hc ⊢
    cases hc
    simp [asBool]
    cases hbd : b.den η <;> simp [hbd] at hm ⊢ <;> exact hm
  · simp [T.sel] at h

/-! ### Memory that is made -/
/-- A new object, and the value that stands for it at its place. -/
structure New where
  o : O
  f : Nat → V
/-- What is made reads so wherever it comes to lie. -/
def NewOk (η : Env) (φ : Place) (W : World) (n : New) (res : Result Next) : Prop :=
  n.o.isDead = false ∧ ∃ OB v', res = .ok (.value v') (W.alloc OB) ∧
    ∀ φ', Mono φ φ' → ∀ k, φ' k = some (W.heap.size, (0, 0)) → VR η φ' (n.f k) v' ∧ OR η φ' n.o (0, 0) (some OB)
def New.put (n : New) (st : St) : R := .val (n.f st.heap.size) (st.new n.o)
theorem NewOk.ok {st : St} {n : New} {res : Result Next} (hs : SR η φ st W) (h : NewOk η φ W n res) : ResOk η φ W (n.put st) res := by
  obtain ⟨_, OB, v', rfl, h2⟩ := h
  have hx := Ext.alloc hs OB
  obtain ⟨h3, h4⟩ := h2 _ hx.mono st.heap.size (by simp [Place.put])
  exact ⟨_, _, φ.put st.heap.size W.heap.size (0, 0), rfl, h3, hs.new _ _ h4, hx⟩
def newCells (t : TypeId) (v : V) : Option New := (Arr.of v.cells).map fun cs => ⟨.cells cs t [], fun k => .ptr (some (k, 0))⟩
theorem newCells_ok {t : TypeId} {v : V} {v' : Value} {n : New} (hv : VR η φ v v') (h : newCells t v = some n) :
    NewOk η φ W n (.ok (.value (.pointer (some ⟨W.heap.size, 0, none⟩))) (W.alloc (.cells v'.cells t))) := by
  unfold newCells at h
  cases hc : Arr.of v.cells with
  | none => simp [hc] at h
  | some cs =>
    have hl := Arr.of_ok hc
    simp only [hc, Option.map_some, Option.some.injEq] at h
    subst h
    refine ⟨rfl, _, _, rfl, fun φ' m k hk => ⟨?_, ?_⟩⟩
    · have := VR.ptr (η := η) (φ := φ') k 0 W.heap.size (0, 0) hk
      simpa using this
    · exact ⟨[], v'.cells.toList, [], t, by simp, rfl, by rw [hl]; exact (hv.cells).mono m, by simp⟩

def newAlloc (P : Program) (t : TypeId) : Option New :=
  match zeroOf P t with
  | some z => newCells t z
  | none => none
theorem newAlloc_ok {t : TypeId} {n : New} (h : newAlloc P t = some n) :
    NewOk η φ W n ((do pure (.value (← Instr.alloc t true (.tuple #[]))) : Sem Next).run P W) := by
  unfold newAlloc at h
  split at h
  · rename_i z hz
    obtain ⟨z', h1, h2⟩ := run_zero hz W
    have := newCells_ok (W := W) (h2 η φ) h
    simp [Instr.alloc, h1, newVar, newRow]
    exact this
  · simp at h

def newBox (a : Regs) (t : TypeId) (x : Operand) : Option New :=
  match evalO a x with
  | some v => newCells t v
  | none => none
theorem newBox_ok {a : Regs} {A : Act} {t : TypeId} {x : Operand} {n : New} (ha : AR η φ a A) (h : newBox a t x = some n) :
    NewOk η φ W n ((do pure (.value (← Instr.box t (A.eval x))) : Sem Next).run P W) := by
  unfold newBox at h
  split at h
  · rename_i v hv
    have := newCells_ok (W := W) (evalO_vr ha hv) h
    simp [Instr.box, newVar, newRow]
    exact this
  · simp at h

/-! ### Loads and stores -/
def loadV (P : Program) (st : St) (t : TypeId) (k o : Nat) : Option V :=
  match aggOf P t, szOf P t, st.cells k with
  | some true, some n, some cs => if o + n ≤ cs.len then some (.agg (cs.sub o n)) else none
  | some false, _, some cs => cs.get o
  | _, _, _ => none
theorem run_loadV {st : St} {t : TypeId} {k o b : Nat} {s : Nat × Nat} {v : V} (hs : SR η φ st W) (hφ : φ k = some (b, s)) (h : loadV P st t k o = some v) :
    ∃ v', (loadVar t ⟨b, s.1 + o, none⟩).run P W = .ok v' W ∧ VR η φ v v' := by
  unfold loadV at h
  split at h
  · rename_i n cs hag hsz hcs
    split at h
    · rename_i hfit
      rw [Arr.sub_eq cs o n hfit] at h
      rw [Arr.len_eq] at hfit
      simp at h; subst h
      obtain ⟨b', s', pre, mid, post, ty, h1, h2, h3, h4⟩ := hs.cells hcs
      rw [hφ] at h1; injection h1 with h1; injection h1 with hb hs'; subst hb; subst hs'
      have hl := h4.length
      have hload := run_loadCells_list (P := P) W ⟨b, s.1 + o, none⟩ ((mid.drop o).take n) (fun j v hv => by
        have hj : j < n := by
          have := (List.getElem?_eq_some_iff.1 hv).1; simp at this; omega
        rw [List.getElem?_take, if_pos hj, List.getElem?_drop] at hv
        have hadd : (⟨b, s.1 + o, none⟩ : Addr).add j = ⟨b, s.1 + o + j, none⟩ := by unfold Addr.add; split <;> simp_all
        rw [hadd]
        have hi : o + j < mid.length := (List.getElem?_eq_some_iff.1 hv).1
        simp only [World.cell?, h2, Option.isSome_none, Bool.false_eq_true, if_false, List.getElem?_toArray]
        rw [List.getElem?_append_left (by simp; omega), List.getElem?_append_right (by omega)]
        rw [show s.1 + o + j - pre.length = o + j by omega]
        exact hv)
      have hlen : ((mid.drop o).take n).length = n := by simp; omega
      rw [hlen] at hload
      refine ⟨.agg ((mid.drop o).take n).toArray, ?_, .agg _ _ ((h4.drop o).take n)⟩
      simp [loadVar, run_isAgg hag, run_sizeOf hsz, hload]
    · simp at h
  · rename_i cs hag hcs
    obtain ⟨v', h1, h2⟩ := hs.cell hcs h hφ
    exact ⟨v', by simp [loadVar, run_isAgg hag, h1], h2⟩
  · simp at h

def opLoad (P : Program) (a : Regs) (st : St) (t : TypeId) (x : Operand) : T R :=
  match evalO a x with
  | some (.ptr (some (k, o))) => T.opt 5 ((loadV P st t k o).map fun v => .val v st)
  | _ => .fail 6
theorem opLoad_ok {a : Regs} {A : Act} {st : St} {t : TypeId} {x : Operand} {r : R} (ha : AR η φ a A) (hs : SR η φ st W) (h : (opLoad P a st t x).sel η = some r) :
    ResF η φ W r ((do pure (.value (← Instr.loadAt t (A.eval x))) : Sem Next).run P W) := by
  unfold opLoad at h
  split at h
  · rename_i k o hx
    rw [T.sel_opt] at h
    cases hv : loadV P st t k o with
    | none => simp [hv] at h
    | some v =>
      simp [hv] at h; subst h
      have hp := evalO_vr ha hx
      generalize A.eval x = pv at hp ⊢
      cases hp with
      | ptr k o b s hφ =>
        obtain ⟨v', h1, h2⟩ := run_loadV hs hφ hv
        exact ResF.here (by simp [Instr.loadAt, Instr.sureAddr, h1]) h2 hs
  · simp [T.sel] at h

def opStore (P : Program) (a : Regs) (st : St) (t : TypeId) (x y : Operand) : T R :=
  match evalO a x, evalO a y, szOf P t with
  | some (.ptr (some (k, o))), some v, some n => if v.cells.length = n then T.opt 7 ((st.store k o v.cells).map .skip) else .fail 8
  | _, _, _ => .fail 8
theorem opStore_ok {a : Regs} {A : Act} {st : St} {t : TypeId} {x y : Operand} {r : R} (ha : AR η φ a A) (hs : SR η φ st W) (h : (opStore P a st t x y).sel η = some r) :
    ResOk η φ W r ((do Instr.storeAt t (A.eval x) (A.eval y); pure .skip : Sem Next).run P W) := by
  unfold opStore at h
  split at h
  · rename_i k o v n hx hy hn
    split at h
    · rename_i hlen
      rw [T.sel_opt] at h
      cases hst : st.store k o v.cells with
      | none => simp [hst] at h
      | some st' =>
        simp [hst] at h; subst h
        have hp := evalO_vr ha hx
        have hv := evalO_vr ha hy
        generalize A.eval x = pv at hp ⊢
        cases hp with
        | ptr k o b s hφ =>
          obtain ⟨W', h1, h2, h3⟩ := hs.store hst hv.cells hφ P
          have hl : (A.eval y).cells.size = n := by have := hv.cells.length; simp at this; omega
          exact ⟨W', φ, by simp [Instr.storeAt, Instr.sureAddr, storeVar, run_sizeOf hn, hl, h1], h2, h3⟩
    · simp [T.sel] at h
  · simp [T.sel] at h

/-! ### Parts -/
def opExtract (a : Regs) (st : St) (x : Operand) (i : Nat) : T R :=
  match evalO a x with
  | some (.tuple vs) => T.opt 9 (vs[i]?.map fun v => .val v st)
  | _ => .fail 9
theorem opExtract_ok {a : Regs} {A : Act} {st : St} {x : Operand} {i : Nat} {r : R} (ha : AR η φ a A) (hs : SR η φ st W) (h : (opExtract a st x i).sel η = some r) :
    ResF η φ W r ((do pure (.value (← Instr.extract (A.eval x) i)) : Sem Next).run P W) := by
  unfold opExtract at h
  split at h
  · rename_i vs hx
    rw [T.sel_opt] at h
    cases hv : vs[i]? with
    | none => simp [hv] at h
    | some v =>
      simp [hv] at h; subst h
      have hp := evalO_vr ha hx
      generalize A.eval x = pv at hp ⊢
      cases hp with
      | tuple _ vs' hvs =>
        obtain ⟨v', h1, h2⟩ := hvs.get i v hv
        exact ResF.here (by simp [Instr.extract, h1]) h2 hs
  · simp [T.sel] at h

def partV (P : Program) (t : TypeId) (cs : List V) (off : Nat) : Option V :=
  match aggOf P t, szOf P t with
  | some true, some n => some (.agg ((cs.drop off).take n))
  | some false, _ => cs[off]?
  | _, _ => none
theorem run_partV {t : TypeId} {cs : List V} {cs' : List Value} {off : Nat} {v : V} (hc : VRs η φ cs cs') (h : partV P t cs off = some v) (W : World) :
    ∃ v', (part t cs'.toArray off).run P W = .ok v' W ∧ VR η φ v v' := by
  unfold partV at h
  split at h
  · rename_i n hag hsz
    simp at h; subst h
    refine ⟨.agg ((cs'.drop off).take n).toArray, ?_, .agg _ _ ((hc.drop off).take n)⟩
    simp [part, run_isAgg hag, run_sizeOf hsz, List.extract_toArray]
  · rename_i hag
    obtain ⟨v', h1, h2⟩ := hc.get off v h
    exact ⟨v', by simp [part, run_isAgg hag, h1], h2⟩
  · simp at h

def opField (P : Program) (a : Regs) (st : St) (t : TypeId) (x : Operand) (i : Nat) : T R :=
  match P.underlying t, evalO a x with
  | some (.struct fields), some (.agg cs) => match fields[i]? with
    | some f => T.opt 10 ((partV P f.type cs f.offset).map fun v => .val v st)
    | none => .fail 10
  | _, _ => .fail 10
theorem opField_ok {a : Regs} {A : Act} {st : St} {t : TypeId} {x : Operand} {i : Nat} {r : R} (ha : AR η φ a A) (hs : SR η φ st W) (h : (opField P a st t x i).sel η = some r) :
    ResF η φ W r ((do pure (.value (← Instr.field t (A.eval x) i)) : Sem Next).run P W) := by
  unfold opField at h
  split at h
  · rename_i fields cs hu hx
    split at h
    · rename_i f hf
      rw [T.sel_opt] at h
      cases hv : partV P f.type cs f.offset with
      | none => simp [hv] at h
      | some v =>
        simp [hv] at h; subst h
        have hp := evalO_vr ha hx
        generalize A.eval x = pv at hp ⊢
        cases hp with
        | agg _ cs' hcs =>
          obtain ⟨v', h1, h2⟩ := run_partV hcs hv W
          exact ResF.here (by simp [Instr.field, run_underlying hu, hf, asAgg, h1]) h2 hs
    · simp [T.sel] at h
  · simp [T.sel] at h

theorem add_at (b s o n : Nat) : (⟨b, s + o, none⟩ : Addr).add n = ⟨b, s + (o + n), none⟩ := by
  unfold Addr.add; split <;> simp_all [Nat.add_assoc]

def opFieldAddr (P : Program) (a : Regs) (st : St) (t : TypeId) (x : Operand) (i : Nat) : T R :=
  match P.underlying t, evalO a x with
  | some (.struct fields), some (.ptr (some (k, o))) => match fields[i]? with
    | some f => match szOf P f.type with
      | some (_ + 1) => .ret (.val (.ptr (some (k, o + f.offset))) st)
      | _ => .fail 11
    | none => .fail 11
  | _, _ => .fail 11
theorem opFieldAddr_ok {a : Regs} {A : Act} {st : St} {t : TypeId} {x : Operand} {i : Nat} {r : R} (ha : AR η φ a A) (hs : SR η φ st W) (h : (opFieldAddr P a st t x i).sel η = some r) :
    ResF η φ W r ((do pure (.value (← Instr.fieldAt t (A.eval x) i)) : Sem Next).run P W) := by
  unfold opFieldAddr at h
  split at h
  · rename_i fields k o hu hx
    split at h
    · rename_i f hf
      split at h
      · rename_i n hn
        simp only [T.sel, Option.some.injEq] at h; subst h
        have hp := evalO_vr ha hx
        generalize A.eval x = pv at hp ⊢
        cases hp with
        | ptr k o b s hφ =>
          refine ResF.here (v' := .pointer (some ⟨b, s.1 + (o + f.offset), none⟩)) ?_ (.ptr k (o + f.offset) b s hφ) hs
          simp [Instr.fieldAt, run_underlying hu, hf, Instr.sureAddr, fieldPlace, run_sizeOf hn, add_at]
      · simp [T.sel] at h
    · simp [T.sel] at h
  · simp [T.sel] at h

end
end
end Go.Proofs.YtbobnbndbgpanaaGreat.Sx
