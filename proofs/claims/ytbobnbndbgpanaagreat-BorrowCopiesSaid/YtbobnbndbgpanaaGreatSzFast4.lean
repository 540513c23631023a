/- Quicker forms for the kernel: operations in a row; regions whose order is open. -/
import Derived.Test.YtbobnbndbgpanaaGreatSzFast3
namespace Go.Proofs.YtbobnbndbgpanaaGreat.Sx
open Go
set_option linter.unusedVariables false
set_option linter.unusedSimpArgs false
noncomputable section
section
variable {P : Program} {call : CallF} {ops : Array Oper}

def putF (a : Regs) (d : Option Tmp) (v : V) : Regs := Option.rec (motive := fun _ => Regs) a (fun d => a.set d v) d
theorem putF_eq (a : Regs) (d : Option Tmp) (v : V) : putF a d v = putV a d v := by cases d <;> rfl
def eqB (s t : Bool) : Bool := Bool.rec (motive := fun _ => Bool) (notB t) t s
theorem eqB_eq (s t : Bool) : eqB s t = decide (s = t) := by cases s <;> cases t <;> rfl
def slotF (l : List Oper) (j : Nat) : Option Tmp := onSome (nth l j) (fun o => o.dst) none
theorem slotF_eq (ops : Array Oper) (j : Nat) : slotF ops.toList j = slotOf ops j := by
  unfold slotF slotOf
  rw [onSome_eq, nth_eq, Array.getElem?_toList]
  cases ops[j]? <;> rfl
def guardT (want : Bool) (yes no : Tmp → Bool → St → T Ox) (d : Tmp) (t : Bool) (st : St) : T Ox := onB (eqB t want) (yes d t st) (no d t st)
def guardV (st : St) (want : Bool) (yes no : Tmp → Bool → St → T Ox) (skip : T Ox) (e2 : Nat) (d : Tmp) (v : V) : T Ox :=
  v.onBool (fun b => brF st b (guardT want yes no d)) (v.onTuple (fun l => List.rec (motive := fun _ => T Ox) skip (fun _ _ _ => .fail e2) l) (.fail e2))
def guardS (q : Nat × Bool) (l : List Oper) (a : Regs) (st : St) (_go : T Ox) (yes no : Tmp → Bool → St → T Ox) (skip : T Ox) (e1 e2 : Nat) : T Ox :=
  onSome (slotF l q.1) (fun d => guardV st q.2 yes no skip e2 d (a.get d)) (.fail e1)
def guardF (l : List Oper) (o : Oper) (a : Regs) (st : St) (go : T Ox) (yes no : Tmp → Bool → St → T Ox) (skip : T Ox) (e1 e2 : Nat) : T Ox :=
  Option.rec (motive := fun _ => List Oper → Regs → St → T Ox → (Tmp → Bool → St → T Ox) → (Tmp → Bool → St → T Ox) → T Ox → Nat → Nat → T Ox) (fun _ _ _ go _ _ _ _ _ => go) guardS o.guard l a st go yes no skip e1 e2
theorem guardF_eq (o : Oper) (a : Regs) (st : St) (go : T Ox) (yes no : Tmp → Bool → St → T Ox) (skip : T Ox) (e1 e2 : Nat) :
    guardF ops.toList o a st go yes no skip e1 e2 = (match o.guard with
      | none => go
      | some (j, want) => match slotOf ops j with
        | none => .fail e1
        | some d => match a.get d with
          | .bool b => br st b fun t st => if t = want then yes d t st else no d t st
          | .tuple [] => skip
          | _ => .fail e2) := by
  unfold guardF
  cases o.guard with
  | none => rfl
  | some q =>
    obtain ⟨j, want⟩ := q
    simp only
    unfold guardS
    rw [onSome_eq, slotF_eq]
    cases slotOf ops j with
    | none => rfl
    | some d =>
      simp only
      unfold guardV
      rw [V.onBool_eq, V.onTuple_eq]
      cases a.get d with
      | bool b =>
        simp only
        rw [brF_eq]
        congr 1
        funext t st
        unfold guardT
        rw [onB_eq, eqB_eq]
        by_cases h : t = want <;> simp [h]
      | tuple l => cases l <;> rfl
      | _ => rfl

/-! ### Operations in a row -/
def wF (o : Oper) (rest : Regs → St → T Ox) (a : Regs) (r : W1) : T Ox :=
  match r with
  | .val v st => rest (putV a o.dst v) st
  | .pan v st => .ret (.pan v a st)
  | .put f args st => rest (putV (pushD a f args) o.dst undefV) st
def nextV (o : Oper) (rest : Regs → St → T Ox) (a : Regs) (st : St) (v : V) : T Ox := rest (putF a o.dst v) st
def nextF (o : Oper) (rest : Regs → St → T Ox) (a : Regs) (v : V) (st : St) : T Ox := seqV v (nextV o rest a st)
def panF (a : Regs) (v : V) (st : St) : T Ox := .ret (.pan v a st)
def slowF (P : Program) (call : CallF) (o : Oper) (rest : Regs → St → T Ox) (a : Regs) (st : St) : T Ox := (oneE P call a st o).bind (wF o rest a)
def newV (rest : Regs → St → T Ox) (a : Regs) (d : Option Tmp) (st : St) (v : V) : T Ox := seqSt st (rest (putF a d v))
def newSt (o : Oper) (rest : Regs → St → T Ox) (a : Regs) (st : St) (n : New) (sz : Nat) : T Ox := seqV (n.f sz) (newV rest a o.dst (st.new n.o))
def newN (o : Oper) (rest : Regs → St → T Ox) (a : Regs) (st : St) (n : New) : T Ox := seqN st.heap.size (newSt o rest a st n)
def newG (P : Program) (_ : CallF) (o : Oper) (rest : Regs → St → T Ox) (a : Regs) (st : St) : T Ox := onSome (newE P a o) (newN o rest a st) (.fail 97)
def quietG (P : Program) (call : CallF) (o : Oper) (rest : Regs → St → T Ox) (a : Regs) (st : St) : T Ox := opQ o.op P a st (nextF o rest a) (slowF P call o rest a st)
def otherG (P : Program) (call : CallF) (o : Oper) (rest : Regs → St → T Ox) (a : Regs) (st : St) : T Ox := opK o.op o.op P call a st (nextF o rest a) (panF a) (slowF P call o rest a st)
def goF (P : Program) (call : CallF) (o : Oper) (rest : Regs → St → T Ox) (a : Regs) (st : St) : T Ox :=
  Kind.rec (motive := fun _ => Program → CallF → Oper → (Regs → St → T Ox) → Regs → St → T Ox) newG quietG otherG (kindOf o) P call o rest a st
theorem goF_eq (o : Oper) (rest : Regs → St → T Ox) (a : Regs) (st : St) : goF P call o rest a st = (oneE P call a st o).bind (wF o rest a) := by
  have hk : ∀ v s, nextF o rest a v s = resW (wF o rest a) call (.val v s) := fun v s => by unfold nextF; rw [seqV_eq]; unfold nextV; rw [putF_eq]; rfl
  unfold goF
  cases hd : kindOf o with
  | new =>
    show newG P call o rest a st = _
    rw [oneE_bind]
    have e : opE P a st o = T.opt 97 ((newE P a o).map fun n => n.put st) := by unfold opE; rw [hd]
    rw [e]
    unfold newG
    rw [onSome_eq]
    cases newE P a o with
    | none => rfl
    | some n =>
      simp only
      unfold newN newSt
      rw [seqN_eq, seqV_eq]
      unfold newV
      rw [seqSt_eq, putF_eq]
      rfl
  | quiet =>
    show opQ o.op P a st (nextF o rest a) ((oneE P call a st o).bind (wF o rest a)) = _
    rw [oneE_bind]
    have e : opE P a st o = opF P a st o := by unfold opE; rw [hd]
    rw [e]
    exact opQ_eq hk o
  | other => exact opK_eq (g := wF o rest a) hk (fun v s => rfl) o
def yesF (P : Program) (call : CallF) (o : Oper) (rest : Regs → St → T Ox) (a : Regs) (d : Tmp) (t : Bool) (st : St) : T Ox := goF P call o rest (a.set d (.bool (.lit t))) st
def noF (o : Oper) (rest : Regs → St → T Ox) (a : Regs) (d : Tmp) (t : Bool) (st : St) : T Ox := rest (putF (a.set d (.bool (.lit t))) o.dst undefV) st
def runOpsF (P : Program) (call : CallF) (ops l : List Oper) : Regs → St → T Ox :=
  List.rec (motive := fun _ => Regs → St → T Ox) (fun a st => .ret (.ok a st))
    (fun o _ ih a st => guardF ops o a st (goF P call o ih a st) (yesF P call o ih a) (noF o ih a) (ih (putF a o.dst undefV) st) 70 71) l
theorem runOpsF_eq : ∀ (l : List Oper), runOpsF P call ops.toList l = runOps P call ops l
  | [] => by funext a st; rfl
  | o :: l => by
    funext a st
    have h : runOpsF P call ops.toList (o :: l) a st = guardF ops.toList o a st (goF P call o (runOpsF P call ops.toList l) a st) (yesF P call o (runOpsF P call ops.toList l) a)
      (noF o (runOpsF P call ops.toList l) a) (runOpsF P call ops.toList l (putF a o.dst undefV) st) 70 71 := rfl
    rw [h, runOpsF_eq l, guardF_eq]
    unfold yesF noF
    simp only [goF_eq, putF_eq]
    rfl

/-! ### Regions whose order is open -/
def nextD (o : Oper) (k : Regs → St → List Hp → T Ox) (a : Regs) (base : List Hp) (v : V) (st : St) : T Ox := seqV v fun v => seqSt st fun st => k (putF a o.dst v) st base
def goDF (P : Program) (call : CallF) (ms : List Nat) (i b : Nat) (rest : List (Nat × Nat)) (o : Oper) (k : Regs → St → List Hp → T Ox) (a : Regs) (st : St) (base : List Hp) : T Ox :=
  Kind.rec (motive := fun _ => T Ox)
    (onSome (newE P a o) (fun n => seqN st.heap.size fun sz => nextD o k a base (n.f sz) (st.new n.o)) (.fail 161))
    (onB (memless o) (opQ o.op P a st (fun v s => nextD o k a base v (.mk st.heap s.facts)) (goD P call ms i b rest o k a st base))
      (opQ o.op P a (.mk (baseOf base st.heap) st.facts) (fun v s => onB (Nat.beq b 0) (nextD o k a base v (.mk st.heap s.facts)) (onB (checkH P a o s.facts v base.tail b) (nextD o k a base v (.mk st.heap s.facts)) (.fail 162))) (goD P call ms i b rest o k a st base)))
    (opK o.op o.op P call a st (fun v st' => onB (Nat.ble st.heap.size st'.heap.size) (seqV v fun v => seqSt st' fun st' => k (putF a o.dst v) st' (.cons st'.heap base)) (.fail 168)) (fun v st => onB (rest.all (fun p => befB ms i p.1)) (.ret (.pan v a st)) (.fail 164)) (goD P call ms i b rest o k a st base))
    (kindOf o)
theorem nextD_eq (o : Oper) (k : Regs → St → List Hp → T Ox) (a : Regs) (base : List Hp) (v : V) (st : St) : nextD o k a base v st = k (putV a o.dst v) st base := by
  unfold nextD; rw [seqV_eq, seqSt_eq, putF_eq]
theorem goDF_eq (ms : List Nat) (i b : Nat) (rest : List (Nat × Nat)) (o : Oper) (k : Regs → St → List Hp → T Ox) (a : Regs) (st : St) (base : List Hp) : goDF P call ms i b rest o k a st base = goD P call ms i b rest o k a st base := by
  unfold goDF
  cases hk : kindOf o with
  | new =>
    show onSome _ _ _ = _
    rw [onSome_eq]
    unfold goD
    rw [hk]
    simp only [nextD_eq, seqN_eq]
    cases newE P a o <;> rfl
  | quiet =>
    show onB _ _ _ = _
    rw [onB_eq]
    have hg : goD P call ms i b rest o k a st base = (opF P a (if memless o then st else ⟨baseOf base st.heap, st.facts⟩) o).bind fun r => match r with
      | .val v s => if memless o || checkH P a o s.facts v base.tail b then k (putV a o.dst v) ⟨st.heap, s.facts⟩ base else .fail 162
      | _ => .fail 163 := by unfold goD; rw [hk]; rfl
    cases hm : memless o with
    | true =>
      rw [hg, hm]
      simp only [if_true]
      refine opQ_eq (fun v s => ?_) o
      simp [nextD_eq]
    | false =>
      rw [hg, hm]
      simp only [Bool.false_eq_true, if_false]
      refine opQ_eq (fun v s => ?_) o
      simp only [onB_eq, nextD_eq, Bool.false_or]
      by_cases hb : b = 0
      · subst hb
        have : checkH P a o s.facts v base.tail 0 = true := by unfold checkH; rfl
        rw [this]; rfl
      · have : Nat.beq b 0 = false := by cases e : Nat.beq b 0 with
          | false => rfl
          | true => exact absurd (beq_iff.1 e) hb
        rw [this]; rfl
  | other =>
    show opK _ _ _ _ _ _ _ _ _ = _
    have hg : goD P call ms i b rest o k a st base = (oneE P call a st o).bind fun r => match r with
      | .val v st' => if Nat.ble st.heap.size st'.heap.size then k (putV a o.dst v) st' (st'.heap :: base) else .fail 168
      | .pan v st => if rest.all (fun p => befB ms i p.1) then .ret (.pan v a st) else .fail 164
      | .put _ _ _ => .fail 165 := by unfold goD; rw [hk]; rfl
    rw [hg]
    exact opK_eq (fun v s => by simp only [onB_eq, putF_eq, seqV_eq, seqSt_eq]) (fun v s => by simp only [onB_eq]) o
def runDF (P : Program) (call : CallF) (ops : List Oper) (ms : List Nat) (l : List (Nat × Nat)) : Regs → St → List Hp → T Ox :=
  List.rec (motive := fun _ => Regs → St → List Hp → T Ox) (fun a st _ => .ret (.ok a st))
    (fun it rest ih a st base => Prod.rec (motive := fun _ => T Ox) (fun i b => onSome (nth ops i) (fun o => guardF ops o a st (goDF P call ms i b rest o ih a st base) (fun _ _ st => goDF P call ms i b rest o ih a st base) (fun _ _ st => ih (putF a o.dst undefV) st base) (ih (putF a o.dst undefV) st base) 166 167) (.fail 160)) it) l
theorem runDF_eq (ms : List Nat) : ∀ (l : List (Nat × Nat)), runDF P call ops.toList ms l = runD P call ops ms l
  | [] => by funext a st base; rfl
  | (i, b) :: l => by
    funext a st base
    have h : runDF P call ops.toList ms ((i, b) :: l) a st base = onSome (nth ops.toList i) (fun o => guardF ops.toList o a st (goDF P call ms i b l o (runDF P call ops.toList ms l) a st base) (fun _ _ st => goDF P call ms i b l o (runDF P call ops.toList ms l) a st base)
      (fun _ _ st => runDF P call ops.toList ms l (putF a o.dst undefV) st base) (runDF P call ops.toList ms l (putF a o.dst undefV) st base) 166 167) (.fail 160) := rfl
    rw [h, runDF_eq ms l, onSome_eq, nth_eq, Array.getElem?_toList]
    conv => rhs; unfold runD
    cases ops[i]? with
    | none => rfl
    | some o =>
      simp only
      rw [guardF_eq]
      simp only [goDF_eq, putF_eq]
      rfl
end
end
end Go.Proofs.YtbobnbndbgpanaaGreat.Sx
