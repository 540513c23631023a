/- The executor: calls, regions, code; and that what it comes to is what the model's run comes to. -/
import Derived.Test.YtbobnbndbgpanaaGreatSzIter
namespace Go.Proofs.YtbobnbndbgpanaaGreat.Sx
open Go
set_option linter.unusedVariables false
set_option linter.unusedSimpArgs false
noncomputable section

section
variable {η : Env} {φ : Place} {W : World} {P : Program}

/-- Every function that has a body may be entered. -/
def Plain (P : Program) : Prop := ∀ (f : FuncId) (fn : Func), P.funcs[f]? = some fn → fn.body.isSome = true → (fn.name == "runtime.NumGoroutine") = false
def plainB (P : Program) : Bool := P.funcs.toList.all fun fn => fn.body.isNone || !(fn.name == "runtime.NumGoroutine")
theorem plain_of (h : plainB P = true) : Plain P := by
  intro f fn hf hb
  have hm : fn ∈ P.funcs.toList := by
    have := Array.mem_of_getElem? hf
    simpa using this
  have := List.all_eq_true.1 h fn hm
  simp only [Bool.or_eq_true, Bool.not_eq_true'] at this
  rcases this with h1 | h1
  · cases hx : fn.body <;> simp_all
  · exact h1

/-! ### Calls -/
def opBuiltin (P : Program) (a : Regs) (st : St) (b : Builtin) (c : Call) : T R :=
  match b with
  | .len => match c.argTypes.toList, evalOs a c.args.toList with
    | [t], some [x] => match P.underlying t, x with
      | some (.slice _), .slice _ n _ _ => .ret (.val (.int .i64 (.lit n)) st)
      | some (.slice _), .sliceE => .ret (.val (.int .i64 (.lit 0)) st)
      | some .string, .str (.lit l) => .ret (.val (.int .i64 (.lit l.length)) st)
      | some (.array n _), _ => .ret (.val (.int .i64 (.lit n)) st)
      | some (.map _ _), .map o => match mapOf st o with
        | some es => .ret (.val (.int .i64 (.lit es.length)) st)
        | none => .fail 62
      | _, _ => .fail 62
    | _, _ => .fail 62
  | .max => match evalOs a c.args.toList with
    | some [.int k x, .int _ y] => br st (B.cmp' .gtr y x) fun b st => .ret (.val (.int k (if b then y else x)) st)
    | _ => .fail 63
  | .min => match evalOs a c.args.toList with
    | some [.int k x, .int _ y] => br st (B.cmp' .lss y x) fun b st => .ret (.val (.int k (if b then y else x)) st)
    | _ => .fail 64
  | _ => .fail 65
def opCall (P : Program) (a : Regs) (st : St) (c : Call) : T R :=
  match c.callee with
  | .value f => match evalO a f, evalOs a c.args.toList with
    | some (.func (.func g) first cap), some args =>
      match P.funcs[g]? with
      | some fn => match fn.body with
        | some _ => .ret (.enter g (first ++ args ++ cap) st)
        | none => .fail 60
      | none => .fail 60
    | _, _ => .fail 61
  | .builtin .append => match evalOs a c.args.toList with
    | some args => opAppend P st c.argTypes.toList args
    | none => .fail 66
  | .builtin .recover => .ret (.recover st)
  | .builtin b => opBuiltin P a st b c
  | _ => .fail 65

theorem args_map (a : Act) (xs : Array Operand) : xs.map a.eval = (xs.toList.map a.eval).toArray := by rw [← Array.toList_map, Array.toArray_toList]

theorem opBuiltin_ok {a : Regs} {A : Act} {st : St} {o : Oper} {b : Builtin} {c : Call} {r : R} (ho : o.op = .call c) (hcb : c.callee = .builtin b) (ha : AR η φ a A) (hs : SR η φ st W) (h : (opBuiltin P a st b c).sel η = some r) :
    ResF η φ W r ((execOp A.eval o).run P W) := by
  unfold opBuiltin at h
  unfold execOp
  simp only [ho]
  split at h
  · have hc := hcb
    split at h
    · rename_i t x hat hargs
      have h2 := evalOs_vr ha hargs
      have hmap : c.args.map A.eval = (c.args.toList.map A.eval).toArray := args_map A c.args
      generalize c.args.toList.map A.eval = l at h2 hmap
      cases h2 with
      | cons _ x' _ l' hx ht => cases ht with | nil =>
      have hat' : c.argTypes = #[t] := by rw [← Array.toArray_toList (xs := c.argTypes), hat]
      split at h
      · rename_i el oo n cc ex hu
        simp only [T.sel, Option.some.injEq] at h; subst h
        cases hx <;> (refine ResF.here ?_ (VR.int .i64 (.lit n)) hs; simp [resolve, hc, hmap, hat', invoke, builtin, Builtin.len_, run_underlying hu, goInt, E.den])
      · rename_i el hu
        simp only [T.sel, Option.some.injEq] at h; subst h
        cases hx
        refine ResF.here ?_ (VR.int .i64 (.lit 0)) hs; simp [resolve, hc, hmap, hat', invoke, builtin, Builtin.len_, run_underlying hu, goInt, E.den]
      · rename_i l hu
        simp only [T.sel, Option.some.injEq] at h; subst h
        cases hx with
        | str =>
          exact ResF.here (by simp only [resolve, hc, hmap, hat', invoke, builtin, Builtin.len_, Sem.run_bind, Sem.run_pure, Result.andThen_ok, List.getElem?_toArray, List.getElem?_cons_zero, run_underlying hu, goInt, lit_size]; rfl) (VR.int .i64 (.lit l.length)) hs
      · rename_i n el hu
        simp only [T.sel, Option.some.injEq] at h; subst h
        refine ResF.here ?_ (VR.int .i64 (.lit n)) hs; simp [resolve, hc, hmap, hat', invoke, builtin, Builtin.len_, run_underlying hu, goInt, E.den]
      · rename_i kt et o hu
        split at h
        case h_2 => simp [T.sel] at h
        rename_i es hes
        simp only [T.sel, Option.some.injEq] at h; subst h
        cases hx with
        | mapN =>
          simp only [mapOf, Option.some.injEq] at hes; subst hes
          refine ResF.here ?_ (VR.int .i64 (.lit ((List.length ([] : List (V × V × Nat)) : Nat) : Int))) hs; simp [resolve, hc, hmap, hat', invoke, builtin, Builtin.len_, run_underlying hu, goInt, E.den]
        | map k0 b s hφ =>
          unfold mapOf at hes
          split at hes
          · rename_i e; cases e
          · rename_i r0 e; cases e
            split at hes
            · rename_i es0 c hh
              simp only [Option.some.injEq] at hes; subst hes
              obtain ⟨b1, s1, es1, g1, g2, g3⟩ := hs.map hh
              rw [hφ] at g1; injection g1 with g1; injection g1 with e1 e2; subst e1
              have hlen : es0.length = es1.size := by have := congrArg List.length (MR.born g3); simpa using this
              refine ResF.here ?_ (VR.int .i64 (.lit (es0.length : Int))) hs
              simp [resolve, hc, hmap, hat', invoke, builtin, Builtin.len_, run_underlying hu, run_getMap g2, goInt, E.den, hlen]
            · simp at hes
      · simp [T.sel] at h
    · simp [T.sel] at h
  · have hc := hcb
    split at h
    · rename_i k x k' y hargs
      have h2 := evalOs_vr ha hargs
      have hmap : c.args.map A.eval = (c.args.toList.map A.eval).toArray := args_map A c.args
      generalize c.args.toList.map A.eval = l at h2 hmap
      cases h2 with
      | cons _ x' _ l' hx ht => cases ht with | cons _ y' _ l'' hy ht => cases ht with | nil =>
      cases hx; cases hy
      obtain ⟨st', h', hs'⟩ := br_sel hs h
      simp only [T.sel, Option.some.injEq] at h'; subst h'
      refine ResF.here ?_ (VR.int k _) hs'
      simp [resolve, hc, hmap, invoke, builtin, Builtin.max_, Builtin.max2, cmpI]
      split <;> simp_all
    · simp [T.sel] at h
  · have hc := hcb
    split at h
    · rename_i k x k' y hargs
      have h2 := evalOs_vr ha hargs
      have hmap : c.args.map A.eval = (c.args.toList.map A.eval).toArray := args_map A c.args
      generalize c.args.toList.map A.eval = l at h2 hmap
      cases h2 with
      | cons _ x' _ l' hx ht => cases ht with | cons _ y' _ l'' hy ht => cases ht with | nil =>
      cases hx; cases hy
      obtain ⟨st', h', hs'⟩ := br_sel hs h
      simp only [T.sel, Option.some.injEq] at h'; subst h'
      refine ResF.here ?_ (VR.int k _) hs'
      simp [resolve, hc, hmap, invoke, builtin, Builtin.min_, Builtin.min2, cmpI]
      split <;> simp_all
    · simp [T.sel] at h
  · simp [T.sel] at h
theorem opCall_ok (hP : Plain P) {a : Regs} {A : Act} {st : St} {o : Oper} {c : Call} {r : R} (ho : o.op = .call c) (ha : AR η φ a A) (hs : SR η φ st W) (h : (opCall P a st c).sel η = some r) :
    ResOk η φ W r ((execOp A.eval o).run P W) := by
  unfold opCall at h
  unfold execOp
  simp only [ho]
  split at h
  · rename_i f hc
    split at h
    · rename_i g first cap args hf hargs
      split at h
      · rename_i fn hfn
        split at h
        · rename_i body hb
          simp only [T.sel, Option.some.injEq] at h; subst h
          have h1 := evalO_vr ha hf
          have h2 := evalOs_vr ha hargs
          generalize hfv : A.eval f = fv at h1
          cases h1 with
          | func _ _ _ first' cap' hfirst hcap =>
            have hname := hP g fn hfn (by simp [hb])
            have hn2 : ¬ ((fn.name == "runtime.NumGoroutine") = true) := by rw [hname]; simp
            have hb2 : ¬ (fn.body.isNone = true) := by simp [hb]
            refine ⟨(first' ++ (c.args.toList.map A.eval) ++ cap').toArray, W, φ, ?_, ?_, hs, Ext.refl _ _⟩
            · simp only [resolve, hc, Sem.run_bind, hfv, Deferred.ofValue, Sem.run_pure, Result.andThen_ok, invoke, callFunc, run_program, hfn]
              rw [if_neg hn2, if_neg hb2]
              simp only [Sem.run_pure, args_map]
              simp
            · simpa using (hfirst.append h2).append hcap
        · simp [T.sel] at h
      · simp [T.sel] at h
    · simp [T.sel] at h
  · rename_i hc
    split at h
    · rename_i args hargs
      have h2 := evalOs_vr ha hargs
      have := opAppend_ok (ty := o.type) hs h2 h
      have hmap : c.args.map A.eval = (c.args.toList.map A.eval).toArray := args_map A c.args
      simp only [resolve, hc, Sem.run_bind, Sem.run_pure, Result.andThen_ok, invoke, builtin, hmap] at this ⊢
      simpa using this
    · simp [T.sel] at h
  · rename_i hc
    simp only [T.sel, Option.some.injEq] at h; subst h
    exact ⟨W, φ, by simp [resolve, hc, invoke, builtin], hs, Ext.refl _ _⟩
  · rename_i b _ _ hcb
    have := opBuiltin_ok ho hcb ha hs h
    unfold execOp at this
    simp only [ho] at this
    exact this.ok
  · simp [T.sel] at h

/-! ### Calls that are put off; panics; the kind of an interface value -/
def opDefer (P : Program) (a : Regs) (st : St) (c : Call) : T R :=
  match c.callee with
  | .value f => match evalO a f, evalOs a c.args.toList with
    | some (.func (.func g) first cap), some args => .ret (.defer g (first ++ args ++ cap) st)
    | _, _ => .fail 150
  | _ => .fail 150
theorem opDefer_ok {a : Regs} {A : Act} {st : St} {o : Oper} {c : Call} {r : R} (ho : o.op = .defer c) (ha : AR η φ a A) (hs : SR η φ st W) (h : (opDefer P a st c).sel η = some r) :
    ResOk η φ W r ((execOp A.eval o).run P W) := by
  unfold opDefer at h
  unfold execOp
  simp only [ho]
  split at h
  case h_2 => simp [T.sel] at h
  rename_i f hc
  split at h
  case h_2 => simp [T.sel] at h
  rename_i g first cap args hf hargs
  simp only [T.sel, Option.some.injEq] at h; subst h
  have h1 := evalO_vr ha hf
  have h2 := evalOs_vr ha hargs
  generalize hfv : A.eval f = fv at h1
  cases h1 with
  | func _ _ _ first' cap' hfirst hcap =>
    refine ⟨⟨.fn (.func g) cap'.toArray, first'.toArray ++ c.args.map A.eval⟩, W, φ, by simp only [resolve, hc, Sem.run_bind, hfv, Deferred.ofValue, Sem.run_pure, Result.andThen_ok], ⟨cap'.toArray, rfl, ?_⟩, hs, Ext.refl _ _⟩
    simpa using (hfirst.append h2).append hcap
def opPanic (a : Regs) (st : St) (x : Operand) : T R :=
  match evalO a x with
  | some (.iface t v) => .ret (.panic (.iface t v) st)
  | _ => .fail 151
theorem opPanic_ok {a : Regs} {A : Act} {st : St} {x : Operand} {r : R} (ha : AR η φ a A) (hs : SR η φ st W) (h : (opPanic a st x).sel η = some r) :
    ResOk η φ W r ((do pure (.value (← Instr.panic (A.eval x))) : Sem Next).run P W) := by
  unfold opPanic at h
  split at h
  case h_2 => simp [T.sel] at h
  rename_i t v hx
  simp only [T.sel, Option.some.injEq] at h; subst h
  have h1 := evalO_vr ha hx
  generalize A.eval x = xv at h1 ⊢
  cases h1 with
  | iface _ _ v' hv => exact ⟨.iface t v', W, φ, rfl, .iface t v v' hv, hs, Ext.refl _ _⟩
def isI : TypeDesc → Bool
  | .interface _ => true
  | _ => false
def opAssert (P : Program) (a : Regs) (st : St) (x : Operand) (t : TypeId) (ok : Bool) : T R :=
  match P.underlying t, zeroOf P t with
  | some d, some z => if isI d then .fail 152 else match evalO a x with
    | some .nilIface => if ok then .ret (.val (.tuple [z, .bool (.lit false)]) st) else .fail 152
    | some (.iface u v) => if u = t then .ret (.val (if ok then .tuple [v, .bool (.lit true)] else v) st)
      else if ok then .ret (.val (.tuple [z, .bool (.lit false)]) st) else .fail 152
    | _ => .fail 152
  | _, _ => .fail 152
theorem opAssert_ok {a : Regs} {A : Act} {st : St} {x : Operand} {xt t : TypeId} {ok : Bool} {r : R} (ha : AR η φ a A) (hs : SR η φ st W) (h : (opAssert P a st x t ok).sel η = some r) :
    ResF η φ W r ((do pure (.value (← Instr.typeAssert (A.eval x) xt t ok)) : Sem Next).run P W) := by
  unfold opAssert at h
  split at h
  case h_2 => simp [T.sel] at h
  rename_i d z hu hz
  split at h
  · simp [T.sel] at h
  rename_i hne
  obtain ⟨z', h2, h3⟩ := run_zero hz W
  split at h
  · rename_i hx
    split at h
    case isFalse => simp [T.sel] at h
    rename_i hok
    subst hok
    simp only [T.sel, Option.some.injEq] at h; subst h
    have h1 := evalO_vr ha hx
    generalize A.eval x = xv at h1 ⊢
    cases h1
    refine ResF.here (v' := .tuple #[z', .bool false]) ?_ (.tuple _ [z', .bool false] (.cons _ _ _ _ (h3 η φ) (.cons _ _ _ _ (.bool (.lit false)) .nil))) hs
    cases d <;> simp [isI] at hne <;> simp [Instr.typeAssert, run_underlying hu, h2]
  · rename_i u v hx
    have h1 := evalO_vr ha hx
    generalize A.eval x = xv at h1 ⊢
    cases h1 with
    | iface _ _ v' hv =>
    split at h
    · rename_i e
      subst e
      simp only [T.sel, Option.some.injEq] at h; subst h
      cases ok with
      | true =>
        refine ResF.here (v' := .tuple #[v', .bool true]) ?_ (.tuple _ [v', .bool true] (.cons _ _ _ _ hv (.cons _ _ _ _ (.bool (.lit true)) .nil))) hs
        cases d <;> simp [isI] at hne <;> simp [Instr.typeAssert, run_underlying hu]
      | false =>
        refine ResF.here (v' := v') ?_ hv hs
        cases d <;> simp [isI] at hne <;> simp [Instr.typeAssert, run_underlying hu]
    · rename_i e
      split at h
      case isFalse => simp [T.sel] at h
      rename_i hok
      subst hok
      simp only [T.sel, Option.some.injEq] at h; subst h
      refine ResF.here (v' := .tuple #[z', .bool false]) ?_ (.tuple _ [z', .bool false] (.cons _ _ _ _ (h3 η φ) (.cons _ _ _ _ (.bool (.lit false)) .nil))) hs
      cases d <;> simp [isI] at hne <;> simp [Instr.typeAssert, run_underlying hu, e, h2]
  · simp [T.sel] at h

/-! ### Any operation -/
/-- Those that make an object, and do no more. -/
def newE (P : Program) (a : Regs) (o : Oper) : Option New :=
  match o.op with
  | .alloc t => newAlloc P t
  | .box t x => newBox a t x
  | .buildSlice t n ps => newBuildSlice P a t n ps
  | .makeMap t r => newMakeMap P a t r
  | .makeSlice t l c => newMakeSlice P a t l c
  | _ => none
theorem newE_ok {a : Regs} {A : Act} {o : Oper} {n : New} (ha : AR η φ a A) (h : newE P a o = some n) : NewOk η φ W n ((execOp A.eval o).run P W) := by
  unfold newE at h
  split at h
  · rename_i ho; unfold execOp; simp only [ho]; exact newAlloc_ok h
  · rename_i ho; unfold execOp; simp only [ho]; exact newBox_ok ha h
  · rename_i ho; unfold execOp; simp only [ho]; exact newBuildSlice_ok ha h
  · rename_i ho; unfold execOp; simp only [ho]; exact newMakeMap_ok ha h
  · rename_i ho; unfold execOp; simp only [ho]; exact newMakeSlice_ok ha h
  · simp at h
/-- Those that leave memory as it is. -/
def opF (P : Program) (a : Regs) (st : St) (o : Oper) : T R :=
  match o.op with
  | .move x => opMove a st x
  | .assign x => opMove a st x
  | .pick c x y => opPick a st c x y
  | .build t ps => opBuild P a st t ps
  | .load t x => opLoad P a st t x
  | .nilCheck x => opNil a st x
  | .binOp op t x y _ => opBin P a st op t x y
  | .unOp op _ x => opUn a st op x
  | .convert s d x => opConv P a st s d x
  | .makeInterface t x => opIface P a st t x
  | .makeFunc fn f c => opFunc a st fn f c
  | .fieldAddr t x i => opFieldAddr P a st t x i
  | .field t x i => opField P a st t x i
  | .indexAddr t x i => opIndexAddr P a st t x i
  | .index t x i => opIndex P a st t x i
  | .extract x i => opExtract a st x i
  | .lookup t x k ok => opLookup2 P a st t x k ok
  | .slice t x lo hi mx => opSlice P a st t x lo hi mx
  | .typeAssert x _ t ok => opAssert P a st x t ok
  | .call c => match c.callee with
    | .builtin b => opBuiltin P a st b c
    | _ => .fail 98
  | _ => .fail 98
theorem opF_ok {a : Regs} {A : Act} {st : St} {o : Oper} {r : R} (ha : AR η φ a A) (hs : SR η φ st W) (h : (opF P a st o).sel η = some r) :
    ResF η φ W r ((execOp A.eval o).run P W) := by
  unfold opF at h
  split at h
  · rename_i ho; unfold execOp; simp only [ho]; exact opMove_ok ha hs h
  · rename_i ho; unfold execOp; simp only [ho]; exact opMove_ok ha hs h
  · rename_i ho; unfold execOp; simp only [ho]; exact opPick_ok ha hs h
  · rename_i ho; unfold execOp; simp only [ho]; exact opBuild_ok ha hs h
  · rename_i ho; unfold execOp; simp only [ho]; exact opLoad_ok ha hs h
  · rename_i ho; exact opNil_ok ho ha hs h
  · rename_i ho; unfold execOp; simp only [ho]; exact opBin_ok ha hs h
  · rename_i ho; unfold execOp; simp only [ho]; exact opUn_ok ha hs h
  · rename_i ho; unfold execOp; simp only [ho]; exact opConv_ok ha hs h
  · rename_i ho; unfold execOp; simp only [ho]; exact opIface_ok ha hs h
  · rename_i ho; unfold execOp; simp only [ho]; exact opFunc_ok ha hs h
  · rename_i ho; unfold execOp; simp only [ho]; exact opFieldAddr_ok ha hs h
  · rename_i ho; unfold execOp; simp only [ho]; exact opField_ok ha hs h
  · rename_i ho; unfold execOp; simp only [ho]; exact opIndexAddr_ok ha hs h
  · rename_i ho; unfold execOp; simp only [ho]; exact opIndex_ok ha hs h
  · rename_i ho; unfold execOp; simp only [ho]; exact opExtract_ok ha hs h
  · rename_i ho; unfold execOp; simp only [ho]; exact opLookup2_ok ha hs h
  · rename_i ho; unfold execOp; simp only [ho]; exact opSlice_ok ha hs h
  · rename_i ho; unfold execOp; simp only [ho]; exact opAssert_ok ha hs h
  · rename_i c ho
    split at h
    · rename_i b hb; exact opBuiltin_ok ho hb ha hs h
    · simp [T.sel] at h
  · simp [T.sel] at h
/-- The kinds of operations: those that make an object; those that leave memory as it is; all others. -/
inductive Kind where
  | new | quiet | other
def kindOf (o : Oper) : Kind :=
  match o.op with
  | .alloc _ | .box _ _ | .buildSlice _ _ _ | .makeMap _ _ | .makeSlice _ _ _ => .new
  | .store _ _ _ | .mapUpdate _ _ _ _ | .insert _ _ _ _ | .defer _ | .panic _ | .range _ _ | .next _ _ | .entry _ | .mapEntry _ _ _ | .entryStore _ _ _ _ => .other
  | .call c => match c.callee with
    | .builtin .append | .builtin .recover | .builtin .copy | .builtin .clear | .builtin .delete => .other
    | .builtin _ => .quiet
    | _ => .other
  | _ => .quiet
def opX (P : Program) (a : Regs) (st : St) (o : Oper) : T R :=
  match o.op with
  | .store t x y => opStore P a st t x y
  | .call c => opCall P a st c
  | .mapUpdate t m k x => opMapUpdate P a st t m k x
  | .insert t m k x => opMapUpdate P a st t m k x
  | .defer c => opDefer P a st c
  | .panic x => opPanic a st x
  | .range t x => opRange P a st t x
  | .next x s => opNext a st x s
  | .entry x => opEntry a st x
  | .mapEntry t m k => opMapEntry P a st t m k
  | .entryStore _ m s x => opEntryStore a st m s x
  | _ => .fail 99
theorem opX_ok (hP : Plain P) {a : Regs} {A : Act} {st : St} {o : Oper} {r : R} (ha : AR η φ a A) (hs : SR η φ st W) (h : (opX P a st o).sel η = some r) :
    ResOk η φ W r ((execOp A.eval o).run P W) := by
  unfold opX at h
  split at h
  · rename_i ho; unfold execOp; simp only [ho]; exact opStore_ok ha hs h
  · rename_i ho; exact opCall_ok hP ho ha hs h
  · rename_i ho; unfold execOp; simp only [ho]; exact opMapUpdate_ok ha hs h
  · rename_i ho; unfold execOp; simp only [ho]; exact opMapUpdate_ok ha hs h
  · rename_i ho; exact opDefer_ok ho ha hs h
  · rename_i ho; unfold execOp; simp only [ho]; exact opPanic_ok ha hs h
  · rename_i ho; unfold execOp; simp only [ho]; exact opRange_ok ha hs h
  · rename_i ho; unfold execOp; simp only [ho]; exact opNext_ok ha hs h
  · rename_i ho; unfold execOp; simp only [ho]; exact opEntry_ok ha hs h
  · rename_i ho; unfold execOp; simp only [ho]; exact opMapEntry_ok ha hs h
  · rename_i ho; unfold execOp; simp only [ho]; exact opEntryStore_ok ha hs h
  · simp [T.sel] at h
def opE (P : Program) (a : Regs) (st : St) (o : Oper) : T R :=
  match kindOf o with
  | .new => T.opt 97 ((newE P a o).map fun n => n.put st)
  | .quiet => opF P a st o
  | .other => opX P a st o
theorem opE_ok (hP : Plain P) {a : Regs} {A : Act} {st : St} {o : Oper} {r : R} (ha : AR η φ a A) (hs : SR η φ st W) (h : (opE P a st o).sel η = some r) :
    ResOk η φ W r ((execOp A.eval o).run P W) := by
  unfold opE at h
  split at h
  · rw [T.sel_opt] at h
    cases hn : newE P a o with
    | none => simp [hn] at h
    | some n => simp only [hn, Option.map_some, Option.some.injEq] at h; subst h; exact (newE_ok ha hn).ok hs
  · exact (opF_ok ha hs h).ok
  · exact opX_ok hP ha hs h

end
end
end Go.Proofs.YtbobnbndbgpanaaGreat.Sx
