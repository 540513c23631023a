/- The executor: code and calls, computed; and that the model's run comes to what they come to. -/
import Derived.Test.YtbobnbndbgpanaaGreatSzDrawn4
import Derived.Test.YtbobnbndbgpanaaGreatSzPlan3
import Derived.Recover
namespace Go.Proofs.YtbobnbndbgpanaaGreat.Sx
open Go Go.RowKit
set_option linter.unusedVariables false
set_option linter.unusedSimpArgs false
noncomputable section

inductive X where
  | normal
  | exit (id : Nat)
  | ret
  | pan (v : V)
abbrev RunF := Code → Regs → St → T (X × Regs × St)

/-- What is known of functions ahead: what a call ends in, and in which memory. -/
abbrev Summary := FuncId → Option (List V → St → Option (CR × St))
def sumV (sm : Summary) (f : FuncId) (args : List V) (st : St) : Option (CR × St) :=
  Option.rec (motive := fun _ => List V → St → Option (CR × St)) (fun _ _ => none) (fun g args st => g args st) (sm f) args st

def resultsV (P : Program) (a : Regs) (st : St) : List ResultVar → Option (List V)
  | [] => some []
  | .tmp t :: l => match resultsV P a st l with
    | some r => some (a.get t :: r)
    | none => none
  | .cell x t :: l => match a.get x with
    | .ptr (some (k, o)) => match loadV P st t k o with
      | some v => match resultsV P a st l with
        | some r => some (v :: r)
        | none => none
      | none => none
    | _ => none
def resultV (P : Program) (fn : Func) (a : Regs) (st : St) : Option V :=
  match resultsV P a st fn.results.toList with
  | some [v] => some v
  | some l => some (.tuple l)
  | none => none

/-! ### Calls that were put off; recover -/
/-- How the caller of a deferred call stands. -/
inductive RM where
  | calm
  | hot (v : V)
  | cold
abbrev RunR := Code → Regs → St → RM → T (X × Regs × St × RM)
def rmOf : Option V → RM
  | none => .calm
  | some v => .hot v
def RM.left : RM → Option V
  | .hot v => some v
  | _ => none
def callD (P : Program) (rund : RunR) (f : FuncId) (args : List V) (u : Option V) (st : St) : T (Option V × St) :=
  match P.funcs[f]? with
  | some fn => match fn.body with
    | some c => if fn.ntmps ≤ 400 ∧ args.length ≤ fn.ntmps then (rund c (startRegs args fn.ntmps) st (rmOf u)).bind fun r =>
        if r.2.1.defs.isEmpty then match r.1 with
          | .exit _ => .fail 81
          | .pan v => .ret (some v, r.2.2.1)
          | _ => match resultV P fn r.2.1 r.2.2.1 with
            | some _ => .ret (r.2.2.2.left, r.2.2.1)
            | none => .fail 82
        else .fail 86
      else .fail 85
    | none => .fail 83
  | none => .fail 84
def leaveE (P : Program) (rund : RunR) (fn : Func) (a : Regs) : List Dfr → Option V → St → T (CR × St)
  | [], none, st => match resultV P fn a st with
    | some v => .ret (.ret v, st)
    | none => .fail 82
  | [], some v, st => .ret (.pan v, st)
  | d :: ds, u, st => (callD P rund d.fn d.args u st).bind fun r => leaveE P rund fn a ds r.1 r.2
def callE (P : Program) (sm : Summary) (run : RunF) (rund : RunR) (f : FuncId) (args : List V) (st : St) : T (CR × St) :=
  match sumV sm f args st with
  | some r => .ret r
  | none => match P.funcs[f]? with
    | some fn => match fn.body with
      | some c => if fn.ntmps ≤ 400 ∧ args.length ≤ fn.ntmps then (run c (startRegs args fn.ntmps) st).bind fun r => match r.1 with
          | .exit _ => .fail 81
          | .pan v => leaveE P rund fn r.2.1 r.2.1.defs (some v) r.2.2
          | _ => leaveE P rund fn r.2.1 r.2.1.defs none r.2.2
        else .fail 85
      | none => .fail 83
    | none => .fail 84

def oxX : Ox → T (X × Regs × St)
  | .ok a st => .ret (.normal, a, st)
  | .pan v a st => .ret (.pan v, a, st)
def isRec (o : Oper) : Bool :=
  match o.op with
  | .call c => match c.callee with
    | .builtin .recover => true
    | _ => false
  | _ => false
/-- A row of operations in a deferred call: recover is among them. -/
def runOpsR (P : Program) (call : CallF) (ops : Array Oper) : List Nat → Regs → St → RM → T (X × Regs × St × RM)
  | [], a, st, rm => .ret (.normal, a, st, rm)
  | i :: rest, a, st, rm => match ops[i]? with
    | none => .fail 170
    | some o => match o.guard with
      | some _ => .fail 171
      | none => if isRec o then (match rm with
          | .hot v => runOpsR P call ops rest (putV a o.dst v) st .cold
          | _ => runOpsR P call ops rest (putV a o.dst .nilIface) st rm)
        else (oneE P call a st o).bind fun r => match r with
          | .val v st => runOpsR P call ops rest (putV a o.dst v) st rm
          | .pan v st => .ret (.pan v, a, st, rm)
          | .put _ _ _ => .fail 172
def evStep (P : Program) (sm : Summary) (e : RunF) (d : RunR) (c : Code) (a : Regs) (st : St) : T (X × Regs × St) :=
  match c with
  | .skip => .ret (.normal, a, st)
  | .label _ => .ret (.normal, a, st)
  | .scope b => e b a st
  | .ret => .ret (.ret, a, st)
  | .exit id => .ret (.exit id, a, st)
  | .region _ ops false => (runOps P (callE P sm e d) ops ops.toList a st).bind oxX
  | .region _ ops true => if planB ops (planOf ops) then (runD P (callE P sm e d) ops (masks ops) (planOf ops) a st [st.heap]).bind oxX else .fail 75
  | .seq x y => (e x a st).bind fun r => match r with
    | (.normal, a, st) => e y a st
    | r => .ret r
  | .cond c x y => match evalO a c with
    | some (.bool b) => br st b fun t st => e (if t then x else y) a st
    | _ => .fail 91
  | .block id b => (e b a st).bind fun r => match r with
    | (.exit id', a, st) => if id' = id then .ret (.normal, a, st) else .ret (.exit id', a, st)
    | r => .ret r
  | .loop b => (e b a st).bind fun r => match r with
    | (.normal, a, st) => e (.loop b) a st
    | r => .ret r
  | _ => .fail 92
def evDStep (P : Program) (sm : Summary) (e : RunF) (d : RunR) (c : Code) (a : Regs) (st : St) (rm : RM) : T (X × Regs × St × RM) :=
  match c with
  | .seq x y => (d x a st rm).bind fun r => match r with
    | (.normal, a, st, rm) => d y a st rm
    | r => .ret r
  | .region _ ops false => if ops.any isRec then runOpsR P (callE P sm e d) ops (List.range ops.size) a st rm
    else (runOps P (callE P sm e d) ops ops.toList a st).bind fun ox => (oxX ox).bind fun r => .ret (r.1, r.2.1, r.2.2, rm)
  | c => (e c a st).bind fun r => .ret (r.1, r.2.1, r.2.2, rm)
structure Evs where
  e : RunF
  d : RunR
def evs (P : Program) (sm : Summary) : Nat → Evs :=
  Nat.rec (motive := fun _ => Evs) (.mk (fun _ _ _ => .fail 90) (fun _ _ _ _ => .fail 90)) (fun _ ih => .mk (evStep P sm ih.e ih.d) (evDStep P sm ih.e ih.d))
def ev (P : Program) (sm : Summary) (n : Nat) : RunF := (evs P sm n).e
def evD (P : Program) (sm : Summary) (n : Nat) : RunR := (evs P sm n).d
theorem ev_zero (P : Program) (sm : Summary) (c : Code) (a : Regs) (st : St) : ev P sm 0 c a st = .fail 90 := rfl
theorem evD_zero (P : Program) (sm : Summary) (c : Code) (a : Regs) (st : St) (rm : RM) : evD P sm 0 c a st rm = .fail 90 := rfl
theorem ev_succ (P : Program) (sm : Summary) (n : Nat) (c : Code) (a : Regs) (st : St) : ev P sm (n + 1) c a st = evStep P sm (ev P sm n) (evD P sm n) c a st := rfl
theorem evD_succ (P : Program) (sm : Summary) (n : Nat) (c : Code) (a : Regs) (st : St) (rm : RM) : evD P sm (n + 1) c a st rm = evDStep P sm (ev P sm n) (evD P sm n) c a st rm := rfl

section
variable {η : Env} {P : Program}

def SumOk (η : Env) (P : Program) (sm : Summary) : Prop :=
  ∀ f args st c st', sumV sm f args st = some (c, st') → ∀ φ args' W, VRs η φ args args' → SR η φ st W →
    Calls P f args'.toArray W fun e W' => ∃ φ', CE η φ' c e ∧ SR η φ' st' W' ∧ Ext φ φ' W W'
theorem SR.below {φ : Place} {st : St} {W W' : World} (hs : SR η φ st W) (h : Below W.heap.size W W') : SR η φ st W' := by
  constructor
  · intro k o hk hd
    obtain ⟨b, s, g1, g2⟩ := hs.obj k o hk hd
    exact ⟨b, s, g1, by rw [h.block b (hs.dom k b s g1).2]; exact g2⟩
  · intro k b s hk
    have := hs.dom k b s hk
    exact ⟨this.1, Nat.lt_of_lt_of_le this.2 h.size⟩
  · exact hs.sep
  · exact hs.facts
/-! ### Results -/
theorem run_resultsV {φ : Place} {W : World} {a : Regs} {A : Act} {st : St} (ha : AR η φ a A) (hs : SR η φ st W) : ∀ (l : List ResultVar) (r : List V), resultsV P a st l = some r →
    ∃ r', (l.mapM (fun x => match x with | .tmp t => pure (A.tmps.getD t undef) | .cell x t => do loadVar t (← asAddr (A.tmps.getD x undef)) : ResultVar → Sem Value)).run P W = .ok r' W ∧ VRs η φ r r'
  | [], r, h => by simp [resultsV] at h; subst h; exact ⟨[], rfl, .nil⟩
  | .tmp t :: l, r, h => by
    unfold resultsV at h
    split at h
    · rename_i r1 hr
      simp at h; subst h
      obtain ⟨r', h1, h2⟩ := run_resultsV ha hs l r1 hr
      have hv : VR η φ (a.get t) (A.tmps.getD t undef) := evalO_vr ha (x := .tmp t) (by simp [evalO])
      refine ⟨A.tmps.getD t undef :: r', ?_, .cons _ _ _ _ (by simpa using hv) h2⟩
      simp only [List.mapM_cons, Sem.run_bind, Sem.run_pure, Result.andThen_ok, h1]
    · simp at h
  | .cell x t :: l, r, h => by
    unfold resultsV at h
    split at h
    · rename_i k o hp
      split at h
      · rename_i v hv
        split at h
        · rename_i r1 hr
          simp at h; subst h
          obtain ⟨r', h1, h2⟩ := run_resultsV ha hs l r1 hr
          have hx : VR η φ (a.get x) (A.tmps.getD x undef) := evalO_vr ha (x := .tmp x) (by simp [evalO])
          rw [hp] at hx
          generalize hq : A.tmps.getD x undef = q at hx
          cases hx with
          | ptr k o b s hφ =>
            obtain ⟨v', g1, g2⟩ := run_loadV (P := P) hs hφ hv
            refine ⟨v' :: r', ?_, .cons _ _ _ _ g2 h2⟩
            have hasA : asAddr (A.tmps.getD x undef) = pure ⟨b, s.1 + o, none⟩ := by rw [hq]; rfl
            simp only [List.mapM_cons, Sem.run_bind, Sem.run_pure, Result.andThen_ok, hasA, g1, h1]
        · simp at h
      · simp at h
    · simp at h

theorem run_resultV {φ : Place} {W : World} {fn : Func} {a : Regs} {A : Act} {st : St} {v : V} (ha : AR η φ a A) (hs : SR η φ st W) (h : resultV P fn a st = some v) :
    ∃ v', (results fn A.tmps).run P W = .ok v' W ∧ VR η φ v v' := by
  have key : ∀ r, resultsV P a st fn.results.toList = some r → ∃ r', (fn.results.mapM (fun x => match x with | .tmp t => pure (A.tmps.getD t undef) | .cell x t => do loadVar t (← asAddr (A.tmps.getD x undef)) : ResultVar → Sem Value)).run P W = .ok r'.toArray W ∧ VRs η φ r r' := by
    intro r hr
    obtain ⟨r', h1, h2⟩ := run_resultsV ha hs _ _ hr
    refine ⟨r', ?_, h2⟩
    rw [Array.mapM_eq_mapM_toList]
    simp only [Sem.run_map, h1, Result.andThen_ok]
  have hres : results fn A.tmps = (do let vs ← fn.results.mapM (fun x => match x with | .tmp t => pure (A.tmps.getD t undef) | .cell x t => do loadVar t (← asAddr (A.tmps.getD x undef)) : ResultVar → Sem Value); pure (if h : vs.size = 1 then vs[0] else .tuple vs)) := rfl
  unfold resultV at h
  split at h
  · rename_i v1 hr
    simp at h; subst h
    obtain ⟨r', h1, h2⟩ := key _ hr
    cases h2 with
    | cons _ v' _ l' hv ht => cases ht with | nil =>
    refine ⟨v', ?_, hv⟩
    rw [hres]
    simp only [Sem.run_bind, h1, Result.andThen_ok]; rfl
  · rename_i l hn hr
    simp at h; subst h
    obtain ⟨r', h1, h2⟩ := key _ hr
    refine ⟨.tuple r'.toArray, ?_, .tuple _ _ h2⟩
    rw [hres]
    simp only [Sem.run_bind, h1, Result.andThen_ok]
    have hl := h2.length
    have hne : ¬ r'.toArray.size = 1 := by
      intro he
      simp at he
      rw [he] at hl
      match l, hl with
      | [x], _ => exact hn x rfl
    rw [dif_neg hne]; rfl
  · simp at h

/-! ### Code -/
def XR (η : Env) (φ : Place) : X → Exit → Prop
  | .normal, .normal => True
  | .exit i, .exit j => i = j
  | .ret, .ret => True
  | .pan v, .panic ch => PR η φ v ch
  | _, _ => False
def Post (η : Env) (φ : Place) (W : World) (x : X) (a : Regs) (st : St) : Exit → Act → World → Prop :=
  fun e A W' => ∃ φ', XR η φ' x e ∧ AR η φ' a A ∧ SR η φ' st W' ∧ Ext φ φ' W W'
theorem Post.ext {φ φ1 : Place} {W W1 : World} {x : X} {a : Regs} {st : St} (h : Ext φ φ1 W W1) {e : Exit} {A : Act} {W' : World} (p : Post η φ1 W1 x a st e A W') : Post η φ W x a st e A W' := by
  obtain ⟨φ2, k1, k2, k3, k4⟩ := p; exact ⟨φ2, k1, k2, k3, h.trans k4⟩
def EvOk (η : Env) (P : Program) (run : RunF) : Prop :=
  ∀ c a st x a' st', (run c a st).sel η = some (x, a', st') → ∀ φ A W, AR η φ a A → SR η φ st W → c.wp P (Post η φ W x a' st') A W
/-- How the caller stands, in the model. -/
def RMR (η : Env) (φ : Place) : RM → FrameMode → Prop
  | .calm, u => u = .returning
  | .hot v, u => ∃ ch, u = .panicking ch ∧ PR η φ v ch
  | .cold, u => ∃ v' older, u = .panicking ({ v := v', recovered := true } :: older) ∧ ∀ e ∈ older, e.goexit = false
theorem RMR.mono {φ φ' : Place} (m : Mono φ φ') {rm : RM} {u : FrameMode} (h : RMR η φ rm u) : RMR η φ' rm u := by
  cases rm with
  | calm => exact h
  | hot v => obtain ⟨ch, h1, h2⟩ := h; exact ⟨ch, h1, h2.mono m⟩
  | cold => exact h
def ModeR (η : Env) (φ : Place) : Option V → FrameMode → Prop
  | none, u => u = .returning
  | some v, u => ∃ ch, u = .panicking ch ∧ PR η φ v ch
theorem rmOf_ok {φ : Place} {u : Option V} {m : FrameMode} (h : ModeR η φ u m) : RMR η φ (rmOf u) m := by
  cases u with
  | none => exact h
  | some v => exact h
theorem settle_ok {φ : Place} {rm : RM} {u : FrameMode} (h : RMR η φ rm u) : ModeR η φ rm.left (settle u) := by
  cases rm with
  | calm => have h' : u = .returning := h; subst h'; rfl
  | hot v => obtain ⟨ch, rfl, v', older, rfl, h2, h3⟩ := h; exact ⟨_, rfl, v', older, rfl, h2, h3⟩
  | cold =>
    obtain ⟨v', older, rfl, h2⟩ := h
    have e : older.dropWhile (fun x => !x.goexit) = [] := by
      clear v'
      induction older with
      | nil => rfl
      | cons x l ih =>
        rw [List.dropWhile_cons, if_pos (by simp [h2 x (by simp)])]
        exact ih fun e he => h2 e (by simp [he])
    show settle _ = _
    simp only [settle, e]
theorem raised_ok {φ : Place} {rm : RM} {u : FrameMode} {v : V} {ch : List PanicEntry} (h : RMR η φ rm u) (hp : PR η φ v ch) : ModeR η φ (some v) (raised u ch) := by
  obtain ⟨v', older, rfl, h2, h3⟩ := hp
  cases rm with
  | calm => have h' : u = .returning := h; subst h'; exact ⟨_, rfl, v', older, rfl, h2, h3⟩
  | hot w =>
    obtain ⟨ch', rfl, w', older', rfl, k2, k3⟩ := h
    refine ⟨_, rfl, v', older ++ ({ v := w', recovered := false } :: older'), rfl, ?_, h3⟩
    intro e he
    rcases List.mem_append.1 he with he | he
    · exact h2 e he
    · rcases List.mem_cons.1 he with rfl | he
      · rfl
      · exact k2 e he
  | cold =>
    obtain ⟨w', older', rfl, k2⟩ := h
    refine ⟨_, rfl, v', older ++ ({ v := w', recovered := true } :: older'), rfl, ?_, h3⟩
    intro e he
    rcases List.mem_append.1 he with he | he
    · exact h2 e he
    · rcases List.mem_cons.1 he with rfl | he
      · rfl
      · exact k2 e he
def PostS (η : Env) (φ : Place) (W : World) (c0 : Frame) (cs : List Frame) (x : X) (a : Regs) (st : St) (rm : RM) : Exit → Act → List Frame → World → Prop :=
  fun e A cs' W' => ∃ φ' u, cs' = { c0 with mode := u } :: cs ∧ RMR η φ' rm u ∧ XR η φ' x e ∧ AR η φ' a A ∧ SR η φ' st W' ∧ Ext φ φ' W W'
def EvDOk (η : Env) (P : Program) (rund : RunR) : Prop :=
  ∀ c a st rm x a' st' rm', (rund c a st rm).sel η = some (x, a', st', rm') → ∀ φ A W (c0 : Frame) cs, AR η φ a A → SR η φ st W → RMR η φ rm c0.mode → c.wpS P (PostS η φ W c0 cs x a' st' rm') A (c0 :: cs) W

theorem wpS_mono {c : Code} {Q Q' : Exit → Act → List Frame → World → Prop} {a : Act} {cs : List Frame} {w : World} (h : c.wpS P Q a cs w) (hq : ∀ e a cs w, Q e a cs w → Q' e a cs w) : c.wpS P Q' a cs w :=
  fun b k hb hr => let ⟨e, a', cs', w', q, r⟩ := h b k hb hr; ⟨e, a', cs', w', hq _ _ _ _ q, r⟩
theorem start_ar {φ : Place} {args : List V} {args' : List Value} {n : Nat} (hargs : VRs η φ args args') (hn : n ≤ 400) (hl : args.length ≤ n) :
    AR η φ (startRegs args n) { tmps := args'.toArray ++ Array.replicate (n - args'.toArray.size) undef, defers := [] } := by
  have hlen := hargs.length
  refine ⟨by simp [startRegs]; omega, hn, fun t => ?_, .nil⟩
  rw [startRegs_get _ _ _ (by omega) hn]
  by_cases ht : t < args.length
  · obtain ⟨v', h1, h2⟩ := hargs.get t args[t] (by simp [ht])
    have e1 : args.getD t (.tuple []) = args[t] := by simp [List.getD, ht]
    have e2 : (args'.toArray ++ Array.replicate (n - args'.toArray.size) undef).getD t undef = v' := by
      rw [Array.getD_eq_getD_getElem?, Array.getElem?_append_left (by simp; omega)]
      simp [h1]
    rw [if_pos (by omega), e1]
    show VR η φ _ ((args'.toArray ++ Array.replicate (n - args'.toArray.size) undef).getD t undef)
    rw [e2]; exact h2
  · have e1 : args.getD t (.tuple []) = undefV := by simp [List.getD, List.getElem?_eq_none (Nat.le_of_not_lt ht), undefV]
    have e2 : (args'.toArray ++ Array.replicate (n - args'.toArray.size) undef).getD t undef = undef := by
      rw [Array.getD_eq_getD_getElem?, Array.getElem?_append_right (by simp; omega)]
      rw [Array.getElem?_replicate]; split <;> rfl
    rw [e1]
    show VR η φ _ ((args'.toArray ++ Array.replicate (n - args'.toArray.size) undef).getD t undef)
    rw [e2]
    split <;> exact undef_vr
theorem callD_ok (hP : Plain P) {rund : RunR} (hrun : EvDOk η P rund) {f : FuncId} {args : List V} {u : Option V} {st : St} {u' : Option V} {st' : St} (h : (callD P rund f args u st).sel η = some (u', st')) {φ : Place} {args' : List Value} {W : World} {m : FrameMode}
    (hargs : VRs η φ args args') (hs : SR η φ st W) (hm : ModeR η φ u m) :
    (∃ fn, P.funcs[f]? = some fn ∧ fn.body.isSome = true) ∧ CallsD P f args'.toArray m W fun e m' W' => ∃ φ', SR η φ' st' W' ∧ Ext φ φ' W W' ∧ match e with
      | .returned _ => ModeR η φ' u' (settle m')
      | .panicked ch => ModeR η φ' u' (raised m' ch)
      | .outgrown => False := by
  unfold callD at h
  split at h
  case h_2 => simp [T.sel] at h
  rename_i fn hfn
  split at h
  case h_2 => simp [T.sel] at h
  rename_i c hc
  refine ⟨⟨fn, hfn, by simp [hc]⟩, ?_⟩
  split at h
  case isFalse => simp [T.sel] at h
  rename_i hfit
  rw [T.sel_bind] at h
  cases hr : (rund c (startRegs args fn.ntmps) st (rmOf u)).sel η with
  | none => rw [hr] at h; simp at h
  | some q =>
    obtain ⟨x, a1, st1, rm1⟩ := q
    rw [hr] at h
    simp only [Option.bind_some] at h
    split at h
    case isFalse => simp [T.sel] at h
    rename_i hdefs
    have hA := start_ar hargs hfit.1 hfit.2
    refine callsD_of_wpS hfn hc fun c0 cs hc0 => ?_
    have hwp := hrun c _ st (rmOf u) x a1 st1 rm1 hr φ _ W c0 cs hA hs (by rw [hc0]; exact rmOf_ok hm)
    refine wpS_mono hwp ?_
    rintro e A' cs' W' ⟨φ', u1, hcs, hrm, hx, ha', hs', hext⟩
    have hnil : A'.defers = [] := by
      have hd := ha'.defers
      have : a1.defs = [] := by simpa using hdefs
      rw [this] at hd
      generalize A'.defers = q at hd
      cases hd; rfl
    have hfin : x = .normal ∨ x = .ret → ∃ v, (results fn A'.tmps).run P W' = .ok v W' ∧ u' = rm1.left ∧ st' = st1 := by
      intro hx'
      have hh : (match resultV P fn a1 st1 with | some _ => T.ret (rm1.left, st1) | none => .fail 82).sel η = some (u', st') := by
        rcases hx' with rfl | rfl <;> exact h
      split at hh
      · rename_i v1 hv
        simp only [T.sel, Option.some.injEq, Prod.mk.injEq] at hh
        obtain ⟨rfl, rfl⟩ := hh
        obtain ⟨v', g1, g2⟩ := run_resultV (P := P) ha' hs' hv
        exact ⟨v', g1, rfl, rfl⟩
      · simp [T.sel] at hh
    cases x <;> cases e <;> simp only [XR] at hx
    · obtain ⟨v, q1, q2, q3⟩ := hfin (.inl rfl)
      subst q2; subst q3
      exact ⟨hnil, u1, hcs, v, q1, φ', hs', hext, settle_ok hrm⟩
    · simp [T.sel] at h
    · obtain ⟨v, q1, q2, q3⟩ := hfin (.inr rfl)
      subst q2; subst q3
      exact ⟨hnil, u1, hcs, v, q1, φ', hs', hext, settle_ok hrm⟩
    · simp only [T.sel, Option.some.injEq, Prod.mk.injEq] at h
      obtain ⟨rfl, rfl⟩ := h
      exact ⟨hnil, u1, hcs, φ', hs', hext, raised_ok hrm hx⟩
theorem leave_ok (hP : Plain P) {rund : RunR} (hrun : EvDOk η P rund) {fn : Func} {a : Regs} : ∀ (ds : List Dfr) (u : Option V) (st : St) (c : CR) (st' : St), (leaveE P rund fn a ds u st).sel η = some (c, st') →
    ∀ (φ0 φ : Place) (W0 W : World) (A : Act) (Ds : List Deferred) (m : FrameMode), AR η φ a A → DRs η φ ds Ds → SR η φ st W → ModeR η φ u m → Ext φ0 φ W0 W →
    Leaves P fn A.tmps (fun e W' => ∃ φ', CE η φ' c e ∧ SR η φ' st' W' ∧ Ext φ0 φ' W0 W') Ds m W := by
  intro ds
  induction ds with
  | nil =>
    intro u st c st' h φ0 φ W0 W A Ds m ha hd hs hm hx
    cases hd
    cases u with
    | none =>
      have hm' : m = .returning := hm
      subst hm'
      unfold leaveE at h
      split at h
      · rename_i v hv
        simp only [T.sel, Option.some.injEq, Prod.mk.injEq] at h
        obtain ⟨rfl, rfl⟩ := h
        obtain ⟨v', g1, g2⟩ := run_resultV (P := P) ha hs hv
        exact ⟨v', g1, φ, ⟨v', rfl, g2⟩, hs, hx⟩
      · simp [T.sel] at h
    | some v =>
      obtain ⟨ch, rfl, hp⟩ := hm
      simp only [leaveE, T.sel, Option.some.injEq, Prod.mk.injEq] at h
      obtain ⟨rfl, rfl⟩ := h
      exact ⟨φ, ⟨ch, rfl, hp⟩, hs, hx⟩
  | cons d ds ih =>
    intro u st c st' h φ0 φ W0 W A Ds m ha hd hs hm hx
    cases hd with
    | cons _ D _ Ds' hD ht =>
    have h' : ((callD P rund d.fn d.args u st).bind fun r => leaveE P rund fn a ds r.1 r.2).sel η = some (c, st') := by
      cases u <;> exact h
    rw [T.sel_bind] at h'
    cases hr : (callD P rund d.fn d.args u st).sel η with
    | none => rw [hr] at h'; simp at h'
    | some q =>
      obtain ⟨u1, st1⟩ := q
      rw [hr] at h'
      simp only [Option.bind_some] at h'
      obtain ⟨tgt, dargs⟩ := D
      obtain ⟨cap, hcap, hvs⟩ := hD
      simp only at hcap
      subst hcap
      obtain ⟨⟨fnd, hfnd, hbd⟩, hcd⟩ := callD_ok hP hrun hr hvs hs hm
      have hmr : m ≠ .run := by
        cases u with
        | none => have : m = .returning := hm; rw [this]; simp
        | some v => obtain ⟨ch, rfl, _⟩ := hm; simp
      have hname := hP d.fn fnd hfnd hbd
      have hn2 : ¬ ((fnd.name == "runtime.NumGoroutine") = true) := by rw [hname]; simp
      have hb2 : ¬ (fnd.body.isNone = true) := by cases hq : fnd.body <;> simp_all
      refine leaves_cons (f := d.fn) (args := (dargs.toList ++ cap.toList).toArray) hmr ?_ ?_
      · simp only [invoke, callFunc, Sem.run_bind, run_program, Result.andThen_ok, hfnd]
        rw [if_neg hn2, if_neg hb2]
        simp
      · refine hcd.mono ?_
        rintro e m' W' ⟨φ', g1, g2, g3⟩
        cases e with
        | returned v => exact ih u1 st1 c st' h' φ0 φ' W0 W' A Ds' _ (ha.mono g2.mono) (ht.mono g2.mono) g1 g3 (hx.trans g2)
        | panicked ch => exact ih u1 st1 c st' h' φ0 φ' W0 W' A Ds' _ (ha.mono g2.mono) (ht.mono g2.mono) g1 g3 (hx.trans g2)
        | outgrown => exact g3.elim
theorem callE_ok (hP : Plain P) {sm : Summary} (hsm : SumOk η P sm) {run : RunF} (hrun : EvOk η P run) {rund : RunR} (hrund : EvDOk η P rund) : CallOk η P (callE P sm run rund) := by
  intro f args st cr st' h φ args' W hargs hs
  unfold callE at h
  split at h
  · rename_i r hg
    simp only [T.sel, Option.some.injEq] at h
    subst h
    exact hsm f args st _ _ hg φ args' W hargs hs
  · split at h
    case h_2 => simp [T.sel] at h
    rename_i fn hfn
    split at h
    case h_2 => simp [T.sel] at h
    rename_i c hc
    split at h
    case isFalse => simp [T.sel] at h
    rename_i hfit
    rw [T.sel_bind] at h
    cases hr : (run c (startRegs args fn.ntmps) st).sel η with
    | none => rw [hr] at h; simp at h
    | some q =>
      obtain ⟨x, a', st1⟩ := q
      rw [hr] at h
      simp only [Option.bind_some] at h
      have hA := start_ar hargs hfit.1 hfit.2
      have hwp := hrun c _ st x a' st1 hr φ _ W hA hs
      refine calls_of_wp_defers hfn hc (wp_mono hwp ?_)
      rintro e A' W' ⟨φ', hx, ha', hs', hext⟩
      cases x <;> cases e <;> simp only [XR] at hx
      · exact leave_ok hP hrund _ none st1 cr st' h φ φ' W W' A' A'.defers .returning ha' ha'.defers hs' rfl hext
      · simp [T.sel] at h
      · exact leave_ok hP hrund _ none st1 cr st' h φ φ' W W' A' A'.defers .returning ha' ha'.defers hs' rfl hext
      · exact leave_ok hP hrund _ (some _) st1 cr st' h φ φ' W W' A' A'.defers _ ha' ha'.defers hs' ⟨_, rfl, hx⟩ hext
end
end
end Go.Proofs.YtbobnbndbgpanaaGreat.Sx
