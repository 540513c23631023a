/- The executor: calls, regions, code; and that what it comes to is what the model's run comes to. -/
import Derived.Test.YtloihfdiabbcpaaSxGrow
namespace Go.Proofs.Ytloihfdiabbcpaa.Sx
open Go

section
variable {η : Env} {φ : Place} {W : World} {P : Program}

/-- Every function that has a body may be entered. -/
def Plain (P : Program) : Prop := ∀ (f : FuncId) (fn : Func), P.funcs[f]? = some fn → fn.body.isSome = true → (fn.name == "runtime.NumGoroutine") = false
def plainB (P : Program) : Bool := P.funcs.toList.all fun fn => fn.body.isNone || !(fn.name == "runtime.NumGoroutine")
theorem plain_of (h : plainB P = true) : Plain P := by
  intro f fn hf hb
  have hm : fn ∈ P.funcs.toList := by
    have := Array.mem_of_getElem? hf
    simpa using this
  have := List.all_eq_true.1 h fn hm
  simp only [Bool.or_eq_true, Bool.not_eq_true'] at this
  rcases this with h1 | h1
  · cases hx : fn.body <;> simp_all
  · exact h1

/-! ### Calls -/
def opBuiltin (P : Program) (a : Regs) (st : St) (b : Builtin) (c : Call) : T R :=
  match b with
  | .len => match c.argTypes.toList, evalOs a c.args.toList with
    | [t], some [x] => match P.underlying t, x with
      | some (.slice _), .slice _ n _ _ => .ret (.val (.int .i64 (.lit n)) st)
      | some (.slice _), .sliceE => .ret (.val (.int .i64 (.lit 0)) st)
      | some .string, .str (.lit l) => .ret (.val (.int .i64 (.lit l.length)) st)
      | some (.array n _), _ => .ret (.val (.int .i64 (.lit n)) st)
      | _, _ => .fail 62
    | _, _ => .fail 62
  | .max => match evalOs a c.args.toList with
    | some [.int k x, .int _ y] => br st (B.cmp' .gtr y x) fun b st => .ret (.val (.int k (if b then y else x)) st)
    | _ => .fail 63
  | .min => match evalOs a c.args.toList with
    | some [.int k x, .int _ y] => br st (B.cmp' .lss y x) fun b st => .ret (.val (.int k (if b then y else x)) st)
    | _ => .fail 64
  | _ => .fail 65
def opCall (P : Program) (a : Regs) (st : St) (c : Call) : T R :=
  match c.callee with
  | .value f => match evalO a f, evalOs a c.args.toList with
    | some (.func (.func g) first cap), some args =>
      match P.funcs[g]? with
      | some fn => match fn.body with
        | some _ => .ret (.enter g (first ++ args ++ cap) st)
        | none => .fail 60
      | none => .fail 60
    | _, _ => .fail 61
  | .builtin .append => match evalOs a c.args.toList with
    | some args => opAppend P st c.argTypes.toList args
    | none => .fail 66
  | .builtin b => opBuiltin P a st b c
  | _ => .fail 65

theorem args_map (a : Act) (xs : Array Operand) : xs.map a.eval = (xs.toList.map a.eval).toArray := by rw [← Array.toList_map, Array.toArray_toList]

theorem opBuiltin_ok {a : Regs} {A : Act} {st : St} {o : Oper} {b : Builtin} {c : Call} {r : R} (ho : o.op = .call c) (hcb : c.callee = .builtin b) (ha : AR η φ a A) (hs : SR η φ st W) (h : (opBuiltin P a st b c).sel η = some r) :
    ResF η φ W r ((execOp A.eval o).run P W) := by
  unfold opBuiltin at h
  unfold execOp
  simp only [ho]
  split at h
  · have hc := hcb
    split at h
    · rename_i t x hat hargs
      have h2 := evalOs_vr ha hargs
      have hmap : c.args.map A.eval = (c.args.toList.map A.eval).toArray := args_map A c.args
      generalize c.args.toList.map A.eval = l at h2 hmap
      cases h2 with
      | cons _ x' _ l' hx ht => cases ht with | nil =>
      have hat' : c.argTypes = #[t] := by rw [← Array.toArray_toList (xs := c.argTypes), hat]
      split at h
      · rename_i el oo n cc ex hu
        simp only [T.sel, Option.some.injEq] at h; subst h
        cases hx <;> (refine ResF.here ?_ (VR.int .i64 (.lit n)) hs; simp [resolve, hc, hmap, hat', invoke, builtin, Builtin.len_, run_underlying hu, goInt, E.den])
      · rename_i el hu
        simp only [T.sel, Option.some.injEq] at h; subst h
        cases hx
        refine ResF.here ?_ (VR.int .i64 (.lit 0)) hs; simp [resolve, hc, hmap, hat', invoke, builtin, Builtin.len_, run_underlying hu, goInt, E.den]
      · rename_i l hu
        simp only [T.sel, Option.some.injEq] at h; subst h
        cases hx with
        | str =>
          exact ResF.here (by simp only [resolve, hc, hmap, hat', invoke, builtin, Builtin.len_, Sem.run_bind, Sem.run_pure, Result.andThen_ok, List.getElem?_toArray, List.getElem?_cons_zero, run_underlying hu, goInt, lit_size]; rfl) (VR.int .i64 (.lit l.length)) hs
      · rename_i n el hu
        simp only [T.sel, Option.some.injEq] at h; subst h
        refine ResF.here ?_ (VR.int .i64 (.lit n)) hs; simp [resolve, hc, hmap, hat', invoke, builtin, Builtin.len_, run_underlying hu, goInt, E.den]
      · simp [T.sel] at h
    · simp [T.sel] at h
  · have hc := hcb
    split at h
    · rename_i k x k' y hargs
      have h2 := evalOs_vr ha hargs
      have hmap : c.args.map A.eval = (c.args.toList.map A.eval).toArray := args_map A c.args
      generalize c.args.toList.map A.eval = l at h2 hmap
      cases h2 with
      | cons _ x' _ l' hx ht => cases ht with | cons _ y' _ l'' hy ht => cases ht with | nil =>
      cases hx; cases hy
      obtain ⟨st', h', hs'⟩ := br_sel hs h
      simp only [T.sel, Option.some.injEq] at h'; subst h'
      refine ResF.here ?_ (VR.int k _) hs'
      simp [resolve, hc, hmap, invoke, builtin, Builtin.max_, Builtin.max2, cmpI]
      split <;> simp_all
    · simp [T.sel] at h
  · have hc := hcb
    split at h
    · rename_i k x k' y hargs
      have h2 := evalOs_vr ha hargs
      have hmap : c.args.map A.eval = (c.args.toList.map A.eval).toArray := args_map A c.args
      generalize c.args.toList.map A.eval = l at h2 hmap
      cases h2 with
      | cons _ x' _ l' hx ht => cases ht with | cons _ y' _ l'' hy ht => cases ht with | nil =>
      cases hx; cases hy
      obtain ⟨st', h', hs'⟩ := br_sel hs h
      simp only [T.sel, Option.some.injEq] at h'; subst h'
      refine ResF.here ?_ (VR.int k _) hs'
      simp [resolve, hc, hmap, invoke, builtin, Builtin.min_, Builtin.min2, cmpI]
      split <;> simp_all
    · simp [T.sel] at h
  · simp [T.sel] at h
theorem opCall_ok (hP : Plain P) {a : Regs} {A : Act} {st : St} {o : Oper} {c : Call} {r : R} (ho : o.op = .call c) (ha : AR η φ a A) (hs : SR η φ st W) (h : (opCall P a st c).sel η = some r) :
    ResOk η φ W r ((execOp A.eval o).run P W) := by
  unfold opCall at h
  unfold execOp
  simp only [ho]
  split at h
  · rename_i f hc
    split at h
    · rename_i g first cap args hf hargs
      split at h
      · rename_i fn hfn
        split at h
        · rename_i body hb
          simp only [T.sel, Option.some.injEq] at h; subst h
          have h1 := evalO_vr ha hf
          have h2 := evalOs_vr ha hargs
          generalize hfv : A.eval f = fv at h1
          cases h1 with
          | func _ _ _ first' cap' hfirst hcap =>
            have hname := hP g fn hfn (by simp [hb])
            have hn2 : ¬ ((fn.name == "runtime.NumGoroutine") = true) := by rw [hname]; simp
            have hb2 : ¬ (fn.body.isNone = true) := by simp [hb]
            refine ⟨(first' ++ (c.args.toList.map A.eval) ++ cap').toArray, W, φ, ?_, ?_, hs, Ext.refl _ _⟩
            · simp only [resolve, hc, Sem.run_bind, hfv, Deferred.ofValue, Sem.run_pure, Result.andThen_ok, invoke, callFunc, run_program, hfn]
              rw [if_neg hn2, if_neg hb2]
              simp only [Sem.run_pure, args_map]
              simp
            · simpa using (hfirst.append h2).append hcap
        · simp [T.sel] at h
      · simp [T.sel] at h
    · simp [T.sel] at h
  · rename_i hc
    split at h
    · rename_i args hargs
      have h2 := evalOs_vr ha hargs
      have := opAppend_ok (ty := o.type) hs h2 h
      have hmap : c.args.map A.eval = (c.args.toList.map A.eval).toArray := args_map A c.args
      simp only [resolve, hc, Sem.run_bind, Sem.run_pure, Result.andThen_ok, invoke, builtin, hmap] at this ⊢
      simpa using this
    · simp [T.sel] at h
  · rename_i b _ hcb
    have := opBuiltin_ok ho hcb ha hs h
    unfold execOp at this
    simp only [ho] at this
    exact this.ok
  · simp [T.sel] at h

/-! ### Any operation -/
def opE (P : Program) (a : Regs) (st : St) (o : Oper) : T R :=
  match o.op with
  | .move x => opMove a st x
  | .assign x => opMove a st x
  | .pick c x y => opPick a st c x y
  | .alloc t => opAlloc P st t
  | .box t x => opBox a st t x
  | .build t ps => opBuild P a st t ps
  | .buildSlice t n ps => opBuildSlice P a st t n ps
  | .load t x => opLoad P a st t x
  | .store t x y => opStore P a st t x y
  | .nilCheck x => opNil a st x
  | .binOp op t x y _ => opBin P a st op t x y
  | .unOp op _ x => opUn a st op x
  | .convert s d x => opConv P a st s d x
  | .makeInterface t x => opIface P a st t x
  | .makeFunc fn f c => opFunc a st fn f c
  | .fieldAddr t x i => opFieldAddr P a st t x i
  | .field t x i => opField P a st t x i
  | .indexAddr t x i => opIndexAddr P a st t x i
  | .index t x i => opIndex P a st t x i
  | .extract x i => opExtract a st x i
  | .call c => opCall P a st c
  | .lookup t x k ok => opLookup P a st t x k ok
  | .mapUpdate t m k x => opMapUpdate P a st t m k x
  | .insert t m k x => opMapUpdate P a st t m k x
  | .makeMap t r => opMakeMap P a st t r
  | .slice t x lo hi mx => opSlice P a st t x lo hi mx
  | .makeSlice t l c => opMakeSlice P a st t l c
  | _ => .fail 99

theorem opE_ok (hP : Plain P) {a : Regs} {A : Act} {st : St} {o : Oper} {r : R} (ha : AR η φ a A) (hs : SR η φ st W) (h : (opE P a st o).sel η = some r) :
    ResOk η φ W r ((execOp A.eval o).run P W) := by
  unfold opE at h
  split at h
  · rename_i ho; unfold execOp; simp only [ho]; exact (opMove_ok ha hs h).ok
  · rename_i ho; unfold execOp; simp only [ho]; exact (opMove_ok ha hs h).ok
  · rename_i ho; unfold execOp; simp only [ho]; exact (opPick_ok ha hs h).ok
  · rename_i ho; unfold execOp; simp only [ho]; exact opAlloc_ok hs h
  · rename_i ho; unfold execOp; simp only [ho]; exact opBox_ok ha hs h
  · rename_i ho; unfold execOp; simp only [ho]; exact (opBuild_ok ha hs h).ok
  · rename_i ho; unfold execOp; simp only [ho]; exact opBuildSlice_ok ha hs h
  · rename_i ho; unfold execOp; simp only [ho]; exact (opLoad_ok ha hs h).ok
  · rename_i ho; unfold execOp; simp only [ho]; exact opStore_ok ha hs h
  · rename_i ho; exact (opNil_ok ho ha hs h).ok
  · rename_i ho; unfold execOp; simp only [ho]; exact (opBin_ok ha hs h).ok
  · rename_i ho; unfold execOp; simp only [ho]; exact (opUn_ok ha hs h).ok
  · rename_i ho; unfold execOp; simp only [ho]; exact (opConv_ok ha hs h).ok
  · rename_i ho; unfold execOp; simp only [ho]; exact (opIface_ok ha hs h).ok
  · rename_i ho; unfold execOp; simp only [ho]; exact (opFunc_ok ha hs h).ok
  · rename_i ho; unfold execOp; simp only [ho]; exact (opFieldAddr_ok ha hs h).ok
  · rename_i ho; unfold execOp; simp only [ho]; exact (opField_ok ha hs h).ok
  · rename_i ho; unfold execOp; simp only [ho]; exact (opIndexAddr_ok ha hs h).ok
  · rename_i ho; unfold execOp; simp only [ho]; exact (opIndex_ok ha hs h).ok
  · rename_i ho; unfold execOp; simp only [ho]; exact (opExtract_ok ha hs h).ok
  · rename_i ho; exact opCall_ok hP ho ha hs h
  · rename_i ho; unfold execOp; simp only [ho]; exact (opLookup_ok ha hs h).ok
  · rename_i ho; unfold execOp; simp only [ho]; exact opMapUpdate_ok ha hs h
  · rename_i ho; unfold execOp; simp only [ho]; exact opMapUpdate_ok ha hs h
  · rename_i ho; unfold execOp; simp only [ho]; exact opMakeMap_ok ha hs h
  · rename_i ho; unfold execOp; simp only [ho]; exact (opSlice_ok ha hs h).ok
  · rename_i ho; unfold execOp; simp only [ho]; exact opMakeSlice_ok ha hs h
  · simp [T.sel] at h

end
end Go.Proofs.Ytloihfdiabbcpaa.Sx
