/- The executor's operations: tests of two values, conversions, indexes, structs and arrays that are made. -/
import Derived.Test.YtbobnbndbgpanaaGreatSzOp3
import Derived.Laws.BytesString
namespace Go.Proofs.YtbobnbndbgpanaaGreat.Sx
open Go
set_option linter.unusedVariables false
set_option linter.unusedSimpArgs false
noncomputable section

section
variable {η : Env} {φ : Place} {W : World} {P : Program}

theorem guard_int (op : BinOp) (t : TypeId) (x y : Operand) (k k' : IntKind) (a b : Int) : (eqGuard op t x y (.int k a) (.int k' b)).run P W = .ok () W := run_guard_plain op t x y _ _ rfl
theorem guard_str (op : BinOp) (t : TypeId) (x y : Operand) (a b : ByteArray) : (eqGuard op t x y (.string a) (.string b)).run P W = .ok () W := run_guard_plain op t x y _ _ rfl

theorem opBin_ok {a : Regs} {A : Act} {st : St} {op : BinOp} {t : TypeId} {x y : Operand} {r : R} (ha : AR η φ a A) (hs : SR η φ st W) (h : (opBin P a st op t x y).sel η = some r) :
    ResF η φ W r ((do pure (.value (← (do eqGuard op t x y (A.eval x) (A.eval y); binOp op t (A.eval x) (A.eval y)))) : Sem Next).run P W) := by
  unfold opBin at h
  split at h
  · rename_i k e k' e' hx hy
    have h1 := evalO_vr ha hx
    have h2 := evalO_vr ha hy
    generalize A.eval x = xv at h1 ⊢
    generalize A.eval y = yv at h2 ⊢
    cases h1; cases h2
    have hg := guard_int (P := P) (W := W) op t x y k k' (e.den η) (e'.den η)
    simp only [Sem.run_bind, hg, Result.andThen_ok]
    split at h
    · have := shiftOp_ok (P := P) (t := t) (k' := k') (.inl rfl) hs h; simpa using this
    · have := shiftOp_ok (P := P) (t := t) (k' := k') (.inr rfl) hs h; simpa using this
    · rename_i hn1 hn2
      split at h
      · rename_i hk; subst hk
        have := intOp_ok (P := P) (t := t) ⟨hn1, hn2⟩ hs h; simpa using this
      · simp [T.sel] at h
  · rename_i s s' hx hy
    have h1 := evalO_vr ha hx
    have h2 := evalO_vr ha hy
    generalize A.eval x = xv at h1 ⊢
    generalize A.eval y = yv at h2 ⊢
    cases h1; cases h2
    have hg := guard_str (P := P) (W := W) op t x y (s.den η) (s'.den η)
    simp only [Sem.run_bind, hg, Result.andThen_ok]
    have := strOp_ok (P := P) (t := t) hs h; simpa using this
  · rename_i v v' hn1 hn2 hx hy
    have h1 := evalO_vr ha hx
    have h2 := evalO_vr ha hy
    generalize A.eval x = xv at h1 ⊢
    generalize A.eval y = yv at h2 ⊢
    have hg : guardB P t x y v v' = false → (eqGuard op t x y xv yv).run P W = .ok () W := by
      intro hq
      apply run_guard_plain
      cases h1 <;> cases h2 <;> first | rfl | exact hq
    have hb : plainW xv yv = true := by
      cases h1 <;> cases h2 <;> first | rfl | exact (hn1 _ _ _ _ rfl rfl).elim | exact (hn2 _ _ rfl rfl).elim
    split at h
    · simp [T.sel] at h
    · rename_i hq
      rw [T.sel_opt] at h
      cases he : eqV P 10000 t v v' with
      | none => simp [he] at h
      | some b =>
        simp [he] at h; subst h
        refine ResF.here ?_ (VR.bool b) hs
        simp [hg hq, binOp_eql hb, equal_den he h1 h2]
    · rename_i hq
      rw [T.sel_opt] at h
      cases he : eqV P 10000 t v v' with
      | none => simp [he] at h
      | some b =>
        simp [he] at h; subst h
        refine ResF.here ?_ (VR.bool (B.not' b)) hs
        simp [hg hq, binOp_neq hb, equal_den he h1 h2]
    · simp [T.sel] at h
  · simp [T.sel] at h

/-! ### One operand -/
def opUn (a : Regs) (st : St) (op : UnOp) (x : Operand) : T R :=
  match op, evalO a x with
  | .neg, some (.int k e) => .ret (.val (.int k (E.wrap' k (E.sub' (.lit 0) e))) st)
  | .xor, some (.int k e) => .ret (.val (.int k (E.bits' .xor k (.lit (if k.signed then -1 else k.max)) e)) st)
  | .not, some (.bool b) => .ret (.val (.bool (B.not' b)) st)
  | _, _ => .fail 30
theorem opUn_ok {a : Regs} {A : Act} {st : St} {op : UnOp} {x : Operand} {r : R} (ha : AR η φ a A) (hs : SR η φ st W) (h : (opUn a st op x).sel η = some r) :
    ResF η φ W r ((do pure (.value (← Op.unary op (A.eval x))) : Sem Next).run P W) := by
  unfold opUn at h
  split at h
  · rename_i k e hx
    simp only [T.sel, Option.some.injEq] at h; subst h
    have h1 := evalO_vr ha hx
    generalize A.eval x = xv at h1 ⊢
    cases h1
    refine ResF.here ?_ (VR.int k _) hs; simp [Op.unary, Op.intArith, E.den]
  · rename_i k e hx
    simp only [T.sel, Option.some.injEq] at h; subst h
    have h1 := evalO_vr ha hx
    generalize A.eval x = xv at h1 ⊢
    cases h1
    refine ResF.here ?_ (VR.int k _) hs; simp [Op.unary, Op.intBits, E.den, bitsI]
  · rename_i b hx
    simp only [T.sel, Option.some.injEq] at h; subst h
    have h1 := evalO_vr ha hx
    generalize A.eval x = xv at h1 ⊢
    cases h1
    refine ResF.here ?_ (VR.bool _) hs; simp [Op.unary]
  · simp [T.sel] at h

/-- Bytes that are known. -/
def bytesV : List V → Option (List Int)
  | [] => some []
  | .int .u8 (.lit n) :: l => match bytesV l with
    | some ns => some (n :: ns)
    | none => none
  | _ :: _ => none
theorem bytesV_ok {l : List V} {l' : List Value} (h : VRs η φ l l') : ∀ {ns : List Int}, bytesV l = some ns → l' = ns.map (Value.int .u8) := by
  induction l generalizing l' with
  | nil => intro ns e; cases h; simp [bytesV] at e; subst e; rfl
  | cons v l ih =>
    intro ns e
    unfold bytesV at e
    split at e
    · rename_i hh; simp at hh
    · rename_i n l0 hh
      injection hh with h1 h2; subst h1; subst h2
      split at e
      · rename_i ns' hns
        injection e with e; subst e
        cases h with | cons _ v' _ l'' hv ht =>
        cases hv
        rw [ih ht hns]; rfl
      · simp at e
    · simp at e
def bytesL (ns : List Int) : List UInt8 := ns.map fun n => UInt8.ofNat n.toNat
theorem bytesL_fold (ns : List Int) : ∀ r : ByteArray, ns.foldl (fun r n => r.push (UInt8.ofNat n.toNat)) r = ⟨r.data ++ (bytesL ns).toArray⟩ := by
  induction ns with
  | nil => intro r; simp [bytesL]
  | cons n ns ih =>
    intro r
    rw [List.foldl_cons, ih]
    simp [bytesL, ByteArray.push]
def strOf (st : St) (v : V) : T R :=
  match v with
  | .slice (some (k, o)) len _ _ => match st.cells k with
    | some cs => if o + len ≤ cs.len then match bytesV (cs.sub o len) with
        | some ns => .ret (.val (.str (.lit (bytesL ns))) st)
        | none => .fail 33
      else .fail 33
    | none => .fail 33
  | _ => .fail 33
theorem strOf_ok {st : St} {v : V} {v' : Value} {r : R} (hs : SR η φ st W) (hv : VR η φ v v') (h : (strOf st v).sel η = some r) :
    ∃ s, r = .val (.str s) st ∧ (Conv.bytesToString v').run P W = .ok (.string (s.den η)) W := by
  unfold strOf at h
  split at h
  case h_2 => simp [T.sel] at h
  rename_i k o len c x
  split at h
  case h_2 => simp [T.sel] at h
  rename_i cs hcs
  split at h
  case isFalse => simp [T.sel] at h
  rename_i hfit
  split at h
  case h_2 => simp [T.sel] at h
  rename_i ns hns
  simp only [T.sel, Option.some.injEq] at h; subst h
  cases hv with | slice _ _ b s _ _ _ hφ =>
  rw [Arr.sub_eq cs o len hfit] at hns
  rw [Arr.len_eq] at hfit
  obtain ⟨b', s', pre, mid, post, ty, h1, h2, h3, h4⟩ := hs.cells hcs
  rw [hφ] at h1; injection h1 with h1; injection h1 with hb hs'; subst hb; subst hs'
  have hl := h4.length
  have hload := run_loadCells_list (P := P) W ⟨b, s.1 + o, none⟩ ((mid.drop o).take len) (fun j v hv => by
    have hj : j < len := by
      have := (List.getElem?_eq_some_iff.1 hv).1; simp at this; omega
    rw [List.getElem?_take, if_pos hj, List.getElem?_drop] at hv
    have hadd : (⟨b, s.1 + o, none⟩ : Addr).add j = ⟨b, s.1 + o + j, none⟩ := by unfold Addr.add; split <;> simp_all
    rw [hadd]
    have hi : o + j < mid.length := (List.getElem?_eq_some_iff.1 hv).1
    simp only [World.cell?, h2, Option.isSome_none, Bool.false_eq_true, if_false, List.getElem?_toArray]
    rw [List.getElem?_append_left (by simp; omega), List.getElem?_append_right (by omega)]
    rw [show s.1 + o + j - pre.length = o + j by omega]
    exact hv)
  have hlen : ((mid.drop o).take len).length = len := by simp; omega
  rw [hlen, bytesV_ok ((h4.drop o).take len) hns] at hload
  refine ⟨.lit (bytesL ns), rfl, ?_⟩
  rw [run_bytesToString (P := P) W _ len _ ns hload, bytesL_fold]
  simp [S.den]
def opConv (P : Program) (a : Regs) (st : St) (src dst : TypeId) (x : Operand) : T R :=
  match P.underlying src, P.underlying dst, evalO a x with
  | some _, some (.int k), some (.int _ e) => .ret (.val (.int k (E.wrap' k e)) st)
  | some _, some .string, some (.str s) => .ret (.val (.str s) st)
  | some (.slice e), some .string, some v => match P.underlying e with
    | some (.int .u8) => strOf st v
    | _ => .fail 31
  | _, _, _ => .fail 31
theorem opConv_ok {a : Regs} {A : Act} {st : St} {src dst : TypeId} {x : Operand} {r : R} (ha : AR η φ a A) (hs : SR η φ st W) (h : (opConv P a st src dst x).sel η = some r) :
    ResF η φ W r ((do pure (.value (← convert src dst (A.eval x))) : Sem Next).run P W) := by
  unfold opConv at h
  split at h
  · rename_i d k k' e hu1 hu2 hx
    simp only [T.sel, Option.some.injEq] at h; subst h
    have h1 := evalO_vr ha hx
    generalize A.eval x = xv at h1 ⊢
    cases h1
    refine ResF.here ?_ (VR.int k _) hs
    simp [convert, run_underlying hu1, run_underlying hu2, Conv.intToInt]
  · rename_i d s hu1 hu2 hx
    simp only [T.sel, Option.some.injEq] at h; subst h
    have h1 := evalO_vr ha hx
    generalize A.eval x = xv at h1 ⊢
    cases h1
    refine ResF.here ?_ (VR.str s) hs
    simp [convert, run_underlying hu1, run_underlying hu2]
  · rename_i e v hn hu1 hu2 hx
    split at h
    · rename_i hue
      have h1 := evalO_vr ha hx
      generalize A.eval x = xv at h1 ⊢
      obtain ⟨s, rfl, h2⟩ := strOf_ok (P := P) hs h1 h
      refine ResF.here (v' := .string (s.den η)) ?_ (VR.str s) hs
      unfold strOf at h
      split at h
      case h_2 => simp [T.sel] at h
      cases h1 with | slice _ _ b s1 _ _ _ hφ =>
      simp [convert, run_underlying hu1, run_underlying hu2, run_underlying hue, h2]
    · simp [T.sel] at h
  · simp [T.sel] at h

def opNil (a : Regs) (st : St) (x : Operand) : T R :=
  match evalO a x with
  | some (.ptr (some p)) => .ret (.val (.ptr (some p)) st)
  | some (.func (.func f) u c) => .ret (.val (.func (.func f) u c) st)
  | some (.iface t v) => .ret (.val (.iface t v) st)
  | _ => .fail 32
theorem opNil_ok {a : Regs} {A : Act} {st : St} {x : Operand} {r : R} {o : Oper} (ho : o.op = .nilCheck x) (ha : AR η φ a A) (hs : SR η φ st W) (h : (opNil a st x).sel η = some r) :
    ResF η φ W r ((execOp A.eval o).run P W) := by
  unfold opNil at h
  unfold execOp
  simp only [ho]
  split at h
  · rename_i p hx
    simp only [T.sel, Option.some.injEq] at h; subst h
    have h1 := evalO_vr ha hx
    generalize A.eval x = xv at h1 ⊢
    cases h1 with
    | ptr k o b s hp => exact ResF.here rfl (VR.ptr k o b s hp) hs
  · rename_i f u c hx
    simp only [T.sel, Option.some.injEq] at h; subst h
    have h1 := evalO_vr ha hx
    generalize A.eval x = xv at h1 ⊢
    cases h1 with
    | func _ _ _ a' c' h1 h2 => exact ResF.here rfl (VR.func _ _ _ a' c' h1 h2) hs
  · rename_i t v hx
    simp only [T.sel, Option.some.injEq] at h; subst h
    have h1 := evalO_vr ha hx
    generalize A.eval x = xv at h1 ⊢
    cases h1 with
    | iface _ _ v' hv => exact ResF.here rfl (VR.iface _ _ _ hv) hs
  · simp [T.sel] at h

/-! ### Functions and interface values -/
def evalOs (a : Regs) : List Operand → Option (List V)
  | [] => some []
  | x :: l => match evalO a x with
    | none => none
    | some v => match evalOs a l with
      | none => none
      | some vs => some (v :: vs)
theorem evalOs_vr {a : Regs} {A : Act} (ha : AR η φ a A) : ∀ {l : List Operand} {vs : List V}, evalOs a l = some vs → VRs η φ vs (l.map A.eval)
  | [], vs, h => by simp [evalOs] at h; subst h; exact .nil
  | x :: l, vs, h => by
    unfold evalOs at h
    split at h
    · simp at h
    · rename_i v hv
      split at h
      · simp at h
      · rename_i ws hw
        simp at h; subst h
        exact .cons _ _ _ _ (evalO_vr ha hv) (evalOs_vr ha hw)

def opFunc (a : Regs) (st : St) (fn : Fn) (first captured : Array Operand) : T R :=
  match evalOs a first.toList, evalOs a captured.toList with
  | some u, some c => .ret (.val (.func fn u c) st)
  | _, _ => .fail 33
theorem opFunc_ok {a : Regs} {A : Act} {st : St} {fn : Fn} {first captured : Array Operand} {r : R} (ha : AR η φ a A) (hs : SR η φ st W) (h : (opFunc a st fn first captured).sel η = some r) :
    ResF η φ W r ((do pure (.value (← Instr.makeFunc fn (first.map A.eval) (captured.map A.eval))) : Sem Next).run P W) := by
  unfold opFunc at h
  split at h
  · rename_i u c hu hc
    simp only [T.sel, Option.some.injEq] at h; subst h
    have h1 := VR.func (η := η) (φ := φ) fn _ _ _ _ (evalOs_vr ha hu) (evalOs_vr ha hc)
    have e1 : (first.toList.map A.eval).toArray = first.map A.eval := by rw [← Array.toList_map, Array.toArray_toList]
    have e2 : (captured.toList.map A.eval).toArray = captured.map A.eval := by rw [← Array.toList_map, Array.toArray_toList]
    rw [e1, e2] at h1
    exact ResF.here (by simp [Instr.makeFunc]) h1 hs
  · simp [T.sel] at h

def opIface (P : Program) (a : Regs) (st : St) (t : TypeId) (x : Operand) : T R :=
  match P.concrete t, evalO a x with
  | true, some v => .ret (.val (.iface t v) st)
  | _, _ => .fail 34
theorem opIface_ok {a : Regs} {A : Act} {st : St} {t : TypeId} {x : Operand} {r : R} (ha : AR η φ a A) (hs : SR η φ st W) (h : (opIface P a st t x).sel η = some r) :
    ResF η φ W r ((do pure (.value (← Instr.makeInterface t (A.eval x))) : Sem Next).run P W) := by
  unfold opIface at h
  split at h
  · rename_i v hc hx
    simp only [T.sel, Option.some.injEq] at h; subst h
    exact ResF.here (by simp [run_makeInterface W t _ hc]) (VR.iface t v _ (evalO_vr ha hx)) hs
  · simp [T.sel] at h

/-! ### Indexes -/
def opIndexAddr (P : Program) (a : Regs) (st : St) (t : TypeId) (x i : Operand) : T R :=
  match P.underlying t, evalO a x, evalO a i with
  | some (.array len elem), some (.ptr (some (k, o))), some (.int _ e) =>
    match szOf P elem with
    | some sz => fork st e len fun j st => .ret (.val (.ptr (some (k, o + j * sz))) st)
    | none => .fail 42
  | some (.slice elem), some (.slice (some (k, o)) len _ _), some (.int _ e) =>
    match szOf P elem with
    | some sz => fork st e len fun j st => .ret (.val (.ptr (some (k, o + j * sz))) st)
    | none => .fail 42
  | _, _, _ => .fail 43
theorem opIndexAddr_ok {a : Regs} {A : Act} {st : St} {t : TypeId} {x i : Operand} {r : R} (ha : AR η φ a A) (hs : SR η φ st W) (h : (opIndexAddr P a st t x i).sel η = some r) :
    ResF η φ W r ((do pure (.value (← Instr.indexAt t (A.eval x) (A.eval i))) : Sem Next).run P W) := by
  unfold opIndexAddr at h
  split at h
  · rename_i len elem k o kk e hu hx hi
    split at h
    · rename_i sz hsz
      obtain ⟨j, st', h1, h2, h3, h4⟩ := fork_sel hs h
      simp only [T.sel, Option.some.injEq] at h3; subst h3
      have hx' := evalO_vr ha hx
      have hi' := evalO_vr ha hi
      generalize A.eval x = xv at hx' ⊢
      generalize A.eval i = iv at hi' ⊢
      cases hi'
      cases hx' with
      | ptr k o b s hp =>
        refine ResF.here (v' := .pointer (some ⟨b, s.1 + (o + j * sz), none⟩)) ?_ (VR.ptr k (o + j * sz) b s hp) h4
        have hlt : (j : Int) < len := by omega
        simp [Instr.indexAt, asIntOf, run_underlying hu, Instr.sureAddr, h1, h2, run_sizeOf hsz, add_at]
    · simp [T.sel] at h
  · rename_i elem k o len c ex kk e hu hx hi
    split at h
    · rename_i sz hsz
      obtain ⟨j, st', h1, h2, h3, h4⟩ := fork_sel hs h
      simp only [T.sel, Option.some.injEq] at h3; subst h3
      have hx' := evalO_vr ha hx
      have hi' := evalO_vr ha hi
      generalize A.eval x = xv at hx' ⊢
      generalize A.eval i = iv at hi' ⊢
      cases hi'
      cases hx' with
      | slice k o b s l c xx hp =>
        refine ResF.here (v' := .pointer (some ⟨b, s.1 + (o + j * sz), none⟩)) ?_ (VR.ptr k (o + j * sz) b s hp) h4
        simp [Instr.indexAt, asIntOf, run_underlying hu, h1, h2, run_sizeOf hsz, add_at]
    · simp [T.sel] at h
  · simp [T.sel] at h

def opIndex (P : Program) (a : Regs) (st : St) (t : TypeId) (x i : Operand) : T R :=
  match P.underlying t, evalO a x, evalO a i with
  | some (.array len elem), some (.agg cs), some (.int _ e) =>
    match szOf P elem with
    | some sz => fork st e len fun j st => T.opt 44 ((partV P elem cs (j * sz)).map fun v => .val v st)
    | none => .fail 44
  | some .string, some (.str (.lit l)), some (.int _ e) => fork st e l.length fun j st => T.opt 44 (l[j]?.map fun c => .val (.int .u8 (.lit c.toNat)) st)
  | _, _, _ => .fail 45
theorem opIndex_ok {a : Regs} {A : Act} {st : St} {t : TypeId} {x i : Operand} {r : R} (ha : AR η φ a A) (hs : SR η φ st W) (h : (opIndex P a st t x i).sel η = some r) :
    ResF η φ W r ((do pure (.value (← Instr.index t (A.eval x) (A.eval i))) : Sem Next).run P W) := by
  unfold opIndex at h
  split at h
  · rename_i len elem cs kk e hu hx hi
    split at h
    · rename_i sz hsz
      obtain ⟨j, st', h1, h2, h3, h4⟩ := fork_sel hs h
      rw [T.sel_opt] at h3
      cases hv : partV P elem cs (j * sz) with
      | none => simp [hv] at h3
      | some v =>
        simp [hv] at h3; subst h3
        have hx' := evalO_vr ha hx
        have hi' := evalO_vr ha hi
        generalize A.eval x = xv at hx' ⊢
        generalize A.eval i = iv at hi' ⊢
        cases hi'
        cases hx' with
        | agg _ cs' hcs =>
          obtain ⟨v', g1, g2⟩ := run_partV hcs hv W
          refine ResF.here ?_ g2 h4
          simp [Instr.index, asIntOf, run_underlying hu, h1, h2, run_sizeOf hsz, g1]
    · simp [T.sel] at h
  · rename_i l kk e hu hx hi
    obtain ⟨j, st', h1, h2, h3, h4⟩ := fork_sel hs h
    rw [T.sel_opt] at h3
    simp [List.getElem?_eq_getElem h2] at h3; subst h3
    have hx' := evalO_vr ha hx
    have hi' := evalO_vr ha hi
    generalize A.eval x = xv at hx' ⊢
    generalize A.eval i = iv at hi' ⊢
    cases hi'
    cases hx' with
    | str s =>
      refine ResF.here ?_ (VR.int .u8 (.lit l[j].toNat)) h4
      have hsz : j < (S.den η (.lit l)).size := by rw [lit_size]; exact h2
      have hget : (S.den η (.lit l))[j]? = some l[j] := by
        rw [getElem?_pos (S.den η (.lit l)) j hsz]; rfl
      simp [Instr.index, asIntOf, run_underlying hu, h1, hget, E.den]
      try rfl
  · simp [T.sel] at h

/-! ### Structs and arrays that are made -/
def layV (off : Nat) : List V → Nat → List V → List V
  | cs, _, [] => cs
  | cs, j, v :: vs => layV off (cs.set (off + j) v) (j + 1) vs
def layW (off : Nat) : List Value → Nat → List Value → List Value
  | cs, _, [] => cs
  | cs, j, v :: vs => layW off (cs.set (off + j) v) (j + 1) vs
theorem lay_vr {off : Nat} : ∀ {vs : List V} {vs' : List Value} {cs : List V} {cs' : List Value} (j : Nat), VRs η φ vs vs' → VRs η φ cs cs' → VRs η φ (layV off cs j vs) (layW off cs' j vs')
  | _, _, _, _, _, .nil, h => h
  | _, _, _, _, j, .cons v v' _ _ hv t, h => lay_vr (j + 1) t (h.set (off + j) hv)
theorem layV_length (off : Nat) : ∀ (vs cs : List V) (j : Nat), (layV off cs j vs).length = cs.length
  | [], _, _ => rfl
  | v :: vs, cs, j => by simp [layV, layV_length off vs]
theorem fold_lay (off : Nat) : ∀ (vs : List Value) (cs : Array Value) (j : Nat),
    ((vs.zipIdx j).foldl (fun (cs : Array Value) (x : Value × Nat) => cs.setIfInBounds (off + x.2) x.1) cs) = (layW off cs.toList j vs).toArray
  | [], cs, j => by simp [layW]
  | v :: vs, cs, j => by
    simp only [List.zipIdx_cons, List.foldl_cons, layW]
    rw [fold_lay off vs _ (j + 1)]
    simp

def fillV (place : Nat → Option (Nat × Nat)) (cells : List V) : List (Nat × V) → Option (List V)
  | [] => some cells
  | (i, v) :: rest =>
    match place i with
    | none => none
    | some (off, size) =>
      if v.cells.length ≠ size || off + v.cells.length > cells.length then none
      else fillV place (layV off cells 0 v.cells) rest
inductive Parts (η : Env) (φ : Place) : List (Nat × V) → List (Nat × Value) → Prop where
  | nil : Parts η φ [] []
  | cons (i : Nat) (v : V) (v' : Value) (l : List (Nat × V)) (l' : List (Nat × Value)) (h : VR η φ v v') (t : Parts η φ l l') : Parts η φ ((i, v) :: l) ((i, v') :: l')
theorem fill_ok {place place' : Nat → Option (Nat × Nat)} (hp : ∀ i p, place i = some p → place' i = some p) : ∀ {ps : List (Nat × V)} {ps' : List (Nat × Value)} {cs : List V} {cs' : List Value} {out : List V},
    Parts η φ ps ps' → VRs η φ cs cs' → fillV place cs ps = some out → ∃ out', Instr.fill place' cs'.toArray ps' = some out'.toArray ∧ VRs η φ out out' := by
  intro ps ps' cs cs' out h
  induction h generalizing cs cs' with
  | nil => intro hc hf; simp [fillV] at hf; subst hf; exact ⟨cs', rfl, hc⟩
  | cons i v v' l l' hv t ih =>
    intro hc hf
    unfold fillV at hf
    split at hf
    · simp at hf
    · rename_i off size hpl
      split at hf
      · simp at hf
      · rename_i hcond
        simp only [Bool.or_eq_true, decide_eq_true_eq, not_or, ne_eq, Decidable.not_not, gt_iff_lt] at hcond
        have hvl := hv.cells.length
        have hcl := hc.length
        obtain ⟨out', h1, h2⟩ := ih (lay_vr 0 hv.cells hc) hf
        refine ⟨out', ?_, h2⟩
        unfold Instr.fill
        rw [hp _ _ hpl]
        have c1 : ¬ (v'.cells.size ≠ size || decide (off + v'.cells.size > cs'.toArray.size)) = true := by
          simp at hvl hcond ⊢; omega
        have hz : v'.cells.zipIdx.foldl (fun (cs : Array Value) (x : Value × Nat) => cs.setIfInBounds (off + x.2) x.1) cs'.toArray = (layW off cs' 0 v'.cells.toList).toArray := by
          rw [← Array.foldl_toList, Array.toList_zipIdx]
          exact fold_lay off v'.cells.toList cs'.toArray 0
        dsimp only
        rw [if_neg c1, ← h1, ← hz]

def evalPs (a : Regs) : List (Nat × Operand) → Option (List (Nat × V))
  | [] => some []
  | (i, x) :: l => match evalO a x with
    | none => none
    | some v => match evalPs a l with
      | none => none
      | some vs => some ((i, v) :: vs)
theorem evalPs_vr {a : Regs} {A : Act} (ha : AR η φ a A) : ∀ {l : List (Nat × Operand)} {vs : List (Nat × V)}, evalPs a l = some vs → Parts η φ vs (l.map fun (i, x) => (i, A.eval x))
  | [], vs, h => by simp [evalPs] at h; subst h; exact .nil
  | (i, x) :: l, vs, h => by
    unfold evalPs at h
    split at h
    · simp at h
    · rename_i v hv
      split at h
      · simp at h
      · rename_i ws hw
        simp at h; subst h
        exact .cons _ _ _ _ _ (evalO_vr ha hv) (evalPs_vr ha hw)

/-- Where a struct's fields lie. -/
def placesOf (P : Program) : List Field → Option (List (Nat × Nat))
  | [] => some []
  | f :: l => match szOf P f.type with
    | none => none
    | some n => match placesOf P l with
      | none => none
      | some r => some ((f.offset, n) :: r)
theorem run_placesOf (W : World) : ∀ (l : List Field) (r : List (Nat × Nat)), placesOf P l = some r →
    (l.mapM (fun f => do pure (f.offset, ← sizeOf f.type) : Field → Sem (Nat × Nat))).run P W = .ok r W
  | [], r, h => by simp [placesOf] at h; subst h; rfl
  | f :: l, r, h => by
    unfold placesOf at h
    split at h
    · simp at h
    · rename_i n hn
      split at h
      · simp at h
      · rename_i r' hr
        simp at h; subst h
        have ih := run_placesOf W l r' hr
        simp only [List.mapM_cons, Sem.run_bind, run_sizeOf hn, Result.andThen_ok, Sem.run_pure, ih]

def opBuild (P : Program) (a : Regs) (st : St) (t : TypeId) (parts : Array (Nat × Operand)) : T R :=
  match zeroOf P t, P.underlying t, evalPs a parts.toList with
  | some z, some (.struct fields), some ps => match placesOf P fields.toList with
    | some pl => T.opt 50 ((fillV (fun i => pl[i]?) z.cells ps).map fun cs => .val (.agg cs) st)
    | none => .fail 50
  | some z, some (.array _ elem), some ps => match szOf P elem with
    | some sz => T.opt 51 ((fillV (fun i => some (i * sz, sz)) z.cells ps).map fun cs => .val (.agg cs) st)
    | none => .fail 51
  | _, _, _ => .fail 52
theorem opBuild_ok {a : Regs} {A : Act} {st : St} {t : TypeId} {parts : Array (Nat × Operand)} {r : R} (ha : AR η φ a A) (hs : SR η φ st W) (h : (opBuild P a st t parts).sel η = some r) :
    ResF η φ W r ((do pure (.value (← Instr.build t (parts.map fun (i, x) => (i, A.eval x)))) : Sem Next).run P W) := by
  unfold opBuild at h
  have hpl : (parts.map fun (i, x) => (i, A.eval x)).toList = parts.toList.map fun (i, x) => (i, A.eval x) := by simp
  split at h
  · rename_i z fields ps hz hu hps
    split at h
    · rename_i pl hp
      rw [T.sel_opt] at h
      cases hf : fillV (fun i => pl[i]?) z.cells ps with
      | none => simp [hf] at h
      | some cs =>
        simp [hf] at h; subst h
        obtain ⟨z', h1, h2⟩ := run_zero hz W
        obtain ⟨out', h3, h4⟩ := fill_ok (place' := (pl.toArray[·]?)) (fun i p hh => by simpa using hh) (evalPs_vr ha hps) (h2 η φ).cells hf
        refine ResF.here ?_ (VR.agg cs out' h4) hs
        have hm : (fields.mapM (fun f => do pure (f.offset, ← sizeOf f.type) : Field → Sem (Nat × Nat))).run P W = .ok pl.toArray W := by
          rw [Array.mapM_eq_mapM_toList]
          simp only [Sem.run_map, run_placesOf W _ _ hp, Result.andThen_ok]
        simp only [Array.toArray_toList] at h3
        simp only [Instr.build, Sem.run_bind, h1, run_underlying hu, hm, hpl, h3, Result.andThen_ok, Sem.run_pure]
    · simp [T.sel] at h
  · rename_i z n elem ps hz hu hps
    split at h
    · rename_i sz hsz
      rw [T.sel_opt] at h
      cases hf : fillV (fun i => some (i * sz, sz)) z.cells ps with
      | none => simp [hf] at h
      | some cs =>
        simp [hf] at h; subst h
        obtain ⟨z', h1, h2⟩ := run_zero hz W
        obtain ⟨out', h3, h4⟩ := fill_ok (place' := fun i => some (i * sz, sz)) (fun i p hh => hh) (evalPs_vr ha hps) (h2 η φ).cells hf
        refine ResF.here ?_ (VR.agg cs out' h4) hs
        simp only [Array.toArray_toList] at h3
        simp only [Instr.build, Sem.run_bind, h1, run_underlying hu, run_sizeOf hsz, hpl, h3, Result.andThen_ok, Sem.run_pure]
    · simp [T.sel] at h
  · simp [T.sel] at h

/-! ### Slices that are made -/
def zerosV (z : List V) (n : Nat) : List V := (List.range n).map fun i => z.getD (i % z.length) undefV
theorem zeros_vr {z : List V} {z' : Array Value} (h : VRs η φ z z'.toList) (n : Nat) (hz : n = 0 ∨ 0 < z.length) : VRs η φ (zerosV z n) ((Array.range n).map fun i => z'[i % z'.size]!).toList := by
  have hl := h.length
  have e : ((Array.range n).map fun i => z'[i % z'.size]!).toList = (List.range n).map fun i => z'[i % z'.size]! := by simp
  rw [e]
  rcases hz with rfl | hz
  · simpa [zerosV] using VRs.nil
  unfold zerosV
  generalize List.range n = l
  induction l with
  | nil => exact .nil
  | cons i l ih =>
    refine .cons _ _ _ _ ?_ ih
    have hi : i % z.length < z.length := Nat.mod_lt _ hz
    obtain ⟨v', h1, h2⟩ := h.get (i % z.length) z[i % z.length] (by simp [hi])
    have e1 : z.getD (i % z.length) undefV = z[i % z.length] := by simp [List.getD, hi]
    have e2 : z'[i % z'.size]! = v' := by
      have hs : z.length = z'.size := by simpa using hl
      rw [hs] at h1
      rw [Array.getElem?_toList] at h1
      simp [getElem!_def, h1]
    show VR η φ (z.getD (i % z.length) undefV) (z'[i % z'.size]!)
    rw [e1, e2]; exact h2

/-- A new row of cells, and a slice over it. -/
def newSlice (elem : TypeId) (cs : Arr) (len cap : Nat) : New := ⟨.cells cs elem [], fun k => .slice (some (k, 0)) len cap true⟩
theorem newSlice_ok {elem : TypeId} {cs : Arr} {cs' : Array Value} {len cap : Nat} (hv : VRs η φ cs.toList cs'.toList) :
    NewOk η φ W (newSlice elem cs len cap) (.ok (.value (.slice (some ⟨W.heap.size, 0, none⟩) len cap)) (W.alloc (.cells cs' elem))) := by
  refine ⟨rfl, _, _, rfl, fun φ' m k hk => ⟨?_, ?_⟩⟩
  · have := VR.slice (η := η) (φ := φ') k 0 W.heap.size (0, 0) len cap true hk
    simpa [newSlice] using this
  · exact ⟨[], cs'.toList, [], elem, by simp, rfl, hv.mono m, by simp⟩

def newBuildSlice (P : Program) (a : Regs) (t : TypeId) (len : Nat) (parts : Array (Nat × Operand)) : Option New :=
  match P.underlying t, evalPs a parts.toList with
  | some (.slice elem), some ps => match szOf P elem, zeroOf P elem with
    | some sz, some z =>
      if len * sz ≤ 65536 ∧ 0 < z.cells.length then ((fillV (fun i => some (i * sz, sz)) (zerosV z.cells (len * sz)) ps).bind Arr.of).map fun cs => newSlice elem cs len len
      else none
    | _, _ => none
  | _, _ => none
theorem newBuildSlice_ok {a : Regs} {A : Act} {t : TypeId} {len : Nat} {parts : Array (Nat × Operand)} {n : New} (ha : AR η φ a A) (h : newBuildSlice P a t len parts = some n) :
    NewOk η φ W n ((do pure (.value (← Instr.buildSlice t len (parts.map fun (i, x) => (i, A.eval x)))) : Sem Next).run P W) := by
  unfold newBuildSlice at h
  have hpl : (parts.map fun (i, x) => (i, A.eval x)).toList = parts.toList.map fun (i, x) => (i, A.eval x) := by simp
  split at h
  · rename_i elem ps hu hps
    split at h
    · rename_i sz z hsz hz
      split at h
      · rename_i hc
        obtain ⟨hc, hz0⟩ := hc
        cases hf : fillV (fun i => some (i * sz, sz)) (zerosV z.cells (len * sz)) ps with
        | none => simp [hf] at h
        | some cs0 =>
          cases hof : Arr.of cs0 with
          | none => simp [hf, hof] at h
          | some cs =>
          have hcs := Arr.of_ok hof
          simp [hf, hof] at h; subst h
          subst hcs
          obtain ⟨z', h1, h2⟩ := run_zero hz W
          have hlim : ¬ (len * sz > 2 ^ 24) := by omega
          by_cases hn : len * sz = 0
          · obtain ⟨out', h3, h4⟩ := fill_ok (place' := fun i => some (i * sz, sz)) (fun i p hh => hh) (evalPs_vr ha hps) (cs' := []) (by rw [hn]; simpa [zerosV] using VRs.nil) hf
            have := newSlice_ok (W := W) (elem := elem) (len := len) (cap := len) (cs' := out'.toArray) (by simpa using h4)
            have e0 : Array.range 0 = #[] := rfl
            simp only [Instr.buildSlice, Sem.run_bind, run_underlying hu, run_sizeOf hsz, Result.andThen_ok, hn, hpl, e0, Array.map_empty]
            rw [if_neg (by decide), if_pos trivial]
            simp only [Sem.run_bind, Sem.run_pure, Result.andThen_ok, h3]
            simp [newRow]
            exact this
          · obtain ⟨out', h3, h4⟩ := fill_ok (place' := fun i => some (i * sz, sz)) (fun i p hh => hh) (evalPs_vr ha hps) (zeros_vr (h2 η φ).cells (len * sz) (.inr hz0)) hf
            have := newSlice_ok (W := W) (elem := elem) (len := len) (cap := len) (cs' := out'.toArray) (by simpa using h4)
            simp only [Array.toArray_toList] at h3
            simp only [Instr.buildSlice, Sem.run_bind, run_underlying hu, run_sizeOf hsz, hlim, if_false, Result.andThen_ok, Sem.run_pure, hn, h1, hpl, h3]
            simp [newRow]
            exact this
      · simp at h
    · simp at h
  · simp at h

end
end
end Go.Proofs.YtbobnbndbgpanaaGreat.Sx
