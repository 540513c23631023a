/- Quicker forms for the kernel: code and calls. -/
import Derived.Test.YtbobnbndbgpanaaGreatSzFast4
namespace Go.Proofs.YtbobnbndbgpanaaGreat.Sx
open Go
set_option linter.unusedVariables false
set_option linter.unusedSimpArgs false
noncomputable section

/-! ### Code whose open regions have an order that is checked -/
def okC (c : Code) : Bool :=
  Code.rec (motive := fun _ => Bool) true (fun _ ops draw => Bool.rec (motive := fun _ => Bool) true (planF ops (planOf ops)) draw) (fun _ _ x y => andF x y) (fun _ _ _ x y => andF x y) (fun _ _ x => x) (fun _ x => x) (fun _ _ _ _ _ _ => true) (fun _ => true) (fun _ x => x) (fun _ => true) (fun _ => true) true (fun _ => true) c
def okFn (P : Program) (f : FuncId) : Bool := Option.rec (motive := fun _ => Bool) true okC (bodyOf P f)
def okFns (P : Program) (l : List FuncId) : Bool := List.rec (motive := fun _ => Bool) true (fun f _ ih => andF (okFn P f) ih) l
def hasB (m : Nat) (f : FuncId) : Bool := Nat.beq (Nat.land (Nat.shiftRight m f) 1) 1
theorem hasB_mem {f : Nat} : ∀ {l : List Nat}, hasB (bitsOf l) f = true → f ∈ l := by
  have key : ∀ (m : Nat), hasB m f = true → m.testBit f = true := by
    intro m h
    have h' : Nat.land (m >>> f) 1 = 1 := beq_iff.1 h
    have : ((m >>> f) &&& 1).testBit 0 = true := by
      have e : (m >>> f) &&& 1 = 1 := h'
      rw [e]; rfl
    rw [Nat.testBit_and, Nat.testBit_shiftRight] at this
    simpa using this
  intro l h
  have h1 := key _ h
  clear h
  induction l with
  | nil => exact absurd h1 (by show ¬ (Nat.testBit 0 f = true); simp)
  | cons x l ih =>
    have h2 : ((1 <<< x) ||| bitsOf l).testBit f = true := h1
    rw [Nat.testBit_or, Bool.or_eq_true, bit_one] at h2
    rcases h2 with h2 | h2
    · exact h2 ▸ List.mem_cons_self
    · exact List.mem_cons_of_mem _ (ih h2)
theorem okFns_mem {P : Program} {f : Nat} : ∀ {l : List Nat}, okFns P l = true → f ∈ l → okFn P f = true
  | x :: l, h, hm => by
    have h' : andF (okFn P x) (okFns P l) = true := h
    rw [andF_eq, Bool.and_eq_true] at h'
    rcases List.mem_cons.1 hm with rfl | hm
    · exact h'.1
    · exact okFns_mem h'.2 hm

section
variable {P : Program} {sm : Summary}
abbrev RT := T (X × Regs × St)
def oxF (ox : Ox) : RT := Ox.rec (motive := fun _ => RT) (fun a st => .ret (.mk .normal (.mk a st))) (fun v a st => .ret (.mk (.pan v) (.mk a st))) ox
theorem oxF_eq : oxF = oxX := by funext ox; cases ox <;> rfl
def onN (r : X × Regs × St) (f : Regs → St → RT) : RT := Prod.rec (motive := fun _ => RT) (fun x q => X.rec (motive := fun _ => RT) (Prod.rec (motive := fun _ => RT) f q) (fun _ => .ret r) (.ret r) (fun _ => .ret r) x) r
def onX (r : X × Regs × St) (id : Nat) : RT := Prod.rec (motive := fun _ => RT) (fun x q => X.rec (motive := fun _ => RT) (.ret r) (fun id' => onB (Nat.beq id' id) (.ret (.mk .normal q)) (.ret r)) (.ret r) (fun _ => .ret r) x) r
def evStepF (e : RunF) (cl : CallF) (P : Program) (c : Code) (a : Regs) (st : St) : RT :=
  Code.rec (motive := fun _ => RunF → CallF → Program → Regs → St → RT)
    (fun _ _ _ a st => .ret (.mk .normal (.mk a st)))
    (fun _ ops draw _ cl P a st => onB draw ((runDF P cl ops.toList (masks ops) (planOf ops) a st (.cons st.heap .nil)).bindF oxF) ((runOpsF P cl ops.toList ops.toList a st).bindF oxF))
    (fun x y _ _ e _ _ a st => (e x a st).bindF fun r => onN r (e y))
    (fun c x y _ _ e _ _ a st => onO c a (fun v => v.onBool (fun b => brF st b fun t st => onB t (e x a st) (e y a st)) (.fail 91)) (.fail 91))
    (fun id b _ e _ _ a st => (e b a st).bindF fun r => onX r id)
    (fun b _ e _ _ a st => (e b a st).bindF fun r => onN r (e (.loop b)))
    (fun _ _ _ _ _ _ _ _ _ _ _ => .fail 92)
    (fun id _ _ _ a st => .ret (.mk (.exit id) (.mk a st)))
    (fun b _ e _ _ a st => e b a st)
    (fun _ _ _ _ a st => .ret (.mk .normal (.mk a st)))
    (fun _ _ _ _ _ _ => .fail 92)
    (fun _ _ _ a st => .ret (.mk .ret (.mk a st)))
    (fun _ _ _ _ _ _ => .fail 92) c e cl P a st
theorem evStepF_eq {e e' : RunF} {d : RunR} {cl : CallF} (he : ∀ c, okC c = true → e c = e' c) (hc : cl = callE P sm e' d) {c : Code} (ok : okC c = true) : evStepF e cl P c = evStep P sm e' d c := by
  subst hc
  funext a st
  cases c with
  | skip => rfl
  | label l => rfl
  | ret => rfl
  | exit id => rfl
  | region id ops draw =>
    cases draw with
    | false =>
      show (runOpsF P _ ops.toList ops.toList a st).bindF oxF = _
      rw [T.bindF_eq, runOpsF_eq, oxF_eq]
      rfl
    | true =>
      show (runDF P _ ops.toList (masks ops) (planOf ops) a st [st.heap]).bindF oxF = _
      rw [T.bindF_eq, runDF_eq, oxF_eq]
      have hp : planB ops (planOf ops) = true := planF_ok ok
      unfold evStep
      simp only
      rw [if_pos hp]
  | seq x y =>
    have ok' : andF (okC x) (okC y) = true := ok
    rw [andF_eq, Bool.and_eq_true] at ok'
    show (e x a st).bindF (fun r => onN r (e y)) = _
    rw [T.bindF_eq, he x ok'.1, he y ok'.2]
    unfold evStep
    simp only
    refine T.bind_congr (fun r => ?_) _
    obtain ⟨x, a, st⟩ := r
    cases x <;> rfl
  | cond c x y =>
    have ok' : andF (okC x) (okC y) = true := ok
    rw [andF_eq, Bool.and_eq_true] at ok'
    show onO c a (fun v => v.onBool (fun b => brF st b fun t st => onB t (e x a st) (e y a st)) (.fail 91)) (.fail 91) = _
    rw [he x ok'.1, he y ok'.2, onO_eq]
    unfold evStep
    simp only
    cases evalO a c with
    | none => rfl
    | some v =>
      simp only
      rw [V.onBool_eq]
      cases v <;> try rfl
      simp only
      rw [brF_eq]
      congr 1
      funext t st
      rw [onB_eq]
      cases t <;> rfl
  | block id b =>
    have ok' : okC b = true := ok
    show (e b a st).bindF (fun r => onX r id) = _
    rw [T.bindF_eq, he b ok']
    unfold evStep
    simp only
    refine T.bind_congr (fun r => ?_) _
    obtain ⟨x, a, st⟩ := r
    cases x with
    | exit id' =>
      show onB (Nat.beq id' id) _ _ = (if id' = id then _ else _)
      rw [onB_eq]
      by_cases h : id' = id
      · rw [if_pos (beq_iff.2 h), if_pos h]
      · rw [if_neg (fun q => h (beq_iff.1 q)), if_neg h]
    | _ => rfl
  | scope b =>
    have ok' : okC b = true := ok
    show e b a st = _
    rw [he b ok']
    unfold evStep
    rfl
  | loop b =>
    have ok' : okC b = true := ok
    show (e b a st).bindF (fun r => onN r (e (.loop b))) = _
    rw [T.bindF_eq, he b ok', he (.loop b) ok']
    unfold evStep
    simp only
    refine T.bind_congr (fun r => ?_) _
    obtain ⟨x, a, st⟩ := r
    cases x <;> rfl
  | _ => rfl

/-! ### Calls -/
def resultsF (P : Program) (a : Regs) (st : St) (l : List ResultVar) : Option (List V) :=
  List.rec (motive := fun _ => Option (List V)) (some .nil) (fun x _ ih => ResultVar.rec (motive := fun _ => Option (List V)) (fun t => onSome ih (fun r => some (.cons (a.get t) r)) none)
    (fun x t => match a.get x with
    | .ptr (some (k, o)) => match loadV P st t k o with
      | some v => onSome ih (fun r => some (.cons v r)) none
      | none => none
    | _ => none) x) l
theorem resultsF_eq (a : Regs) (st : St) : ∀ l : List ResultVar, resultsF P a st l = resultsV P a st l
  | [] => rfl
  | .tmp t :: l => by
    show onSome (resultsF P a st l) _ _ = _
    rw [resultsF_eq a st l, onSome_eq]
    conv => rhs; unfold resultsV
    cases resultsV P a st l <;> rfl
  | .cell x t :: l => by
    show (match a.get x with
    | .ptr (some (k, o)) => match loadV P st t k o with
      | some v => onSome (resultsF P a st l) (fun r => some (List.cons v r)) none
      | none => none
    | _ => none) = _
    rw [resultsF_eq a st l]
    conv => rhs; unfold resultsV
    split
    · split
      · rename_i hx _ v hv
        rw [hx]; simp only [hv]
        rw [onSome_eq]
        cases resultsV P a st l <;> rfl
      · rename_i hx _ hv
        rw [hx]; simp only [hv]
    · split
      · rename_i hn _ _ _ hx
        exact absurd hx (hn _ _)
      · rfl
def resultF (P : Program) (fn : Func) (a : Regs) (st : St) : Option V :=
  onSome (resultsF P a st fn.results.toList) (fun l => List.rec (motive := fun _ => Option V) (some (.tuple .nil)) (fun v l' _ => List.rec (motive := fun _ => Option V) (some v) (fun w l'' _ => some (.tuple (.cons v (.cons w l'')))) l') l) none
theorem resultF_eq (fn : Func) (a : Regs) (st : St) : resultF P fn a st = resultV P fn a st := by
  unfold resultF resultV
  rw [onSome_eq, resultsF_eq]
  cases resultsV P a st fn.results.toList with
  | none => rfl
  | some l => cases l with
    | nil => rfl
    | cons v l => cases l <;> rfl
abbrev CT := T (CR × St)
def leaveF (P : Program) (rund : RunR) (fn : Func) (a : Regs) (u : Option V) (st : St) : CT :=
  List.rec (motive := fun _ => CT) (Option.rec (motive := fun _ => CT) (onSome (resultF P fn a st) (fun v => .ret (.mk (.ret v) st)) (.fail 82)) (fun v => .ret (.mk (.pan v) st)) u) (fun _ _ _ => leaveE P rund fn a a.defs u st) a.defs
theorem leaveF_eq (rund : RunR) (fn : Func) (a : Regs) (u : Option V) (st : St) : leaveF P rund fn a u st = leaveE P rund fn a a.defs u st := by
  unfold leaveF
  cases hd : a.defs with
  | cons d ds => rfl
  | nil =>
    cases u with
    | some v => rfl
    | none =>
      show onSome _ _ _ = _
      rw [onSome_eq, resultF_eq]
      unfold leaveE
      cases resultV P fn a st <;> rfl
def afterF (P : Program) (rund : RunR) (fn : Func) (r : X × Regs × St) : CT :=
  Prod.rec (motive := fun _ => CT) (fun x q => Prod.rec (motive := fun _ => CT) (fun a st => X.rec (motive := fun _ => CT) (leaveF P rund fn a none st) (fun _ => .fail 81) (leaveF P rund fn a none st) (fun v => leaveF P rund fn a (some v) st) x) q) r
def callF (P : Program) (sm : Summary) (m : Nat) (run : RunF) (rund : RunR) (slow : CallF) (f : FuncId) (args : List V) (st : St) : CT :=
  onB (hasB m f) (Option.rec (motive := fun _ => CT) (onSome P.funcs[f]? (fun fn => onSome fn.body (fun c => onB (andF (Nat.ble fn.ntmps 400) (Nat.ble (lenN args) fn.ntmps)) ((run c (startRegs args fn.ntmps) st).bindF (afterF P rund fn)) (.fail 85)) (.fail 83)) (.fail 84))
    (fun r => .ret r) (sumV sm f args st)) (slow f args st)
theorem callF_eq {run run' : RunF} {rund : RunR} {m : Nat} (hall : ∀ f, hasB m f = true → okFn P f = true) (he : ∀ c, okC c = true → run c = run' c) :
    callF P sm m run rund (callE P sm run' rund) = callE P sm run' rund := by
  funext f args st
  unfold callF
  rw [onB_eq]
  split
  case isFalse => rfl
  rename_i hm
  have hok := hall f hm
  cases hs : sumV sm f args st with
  | some r =>
    unfold callE
    rw [hs]
  | none =>
    show onSome P.funcs[f]? _ _ = _
    rw [onSome_eq]
    unfold callE
    rw [hs]
    simp only
    unfold okFn bodyOf at hok
    cases hfn : P.funcs[f]? with
    | none => rfl
    | some fn =>
      rw [hfn] at hok
      simp only
      rw [onSome_eq]
      simp only at hok
      cases hb : fn.body with
      | none => rfl
      | some c =>
        rw [hb] at hok
        have hok' : okC c = true := hok
        simp only
        rw [onB_eq, andF_eq, lenN_eq, he c hok', T.bindF_eq]
        by_cases h : fn.ntmps ≤ 400 ∧ args.length ≤ fn.ntmps
        · rw [if_pos h, if_pos (by rw [Bool.and_eq_true]; exact ⟨ble_true h.1, ble_true h.2⟩)]
          refine T.bind_congr (fun r => ?_) _
          obtain ⟨x, a, st⟩ := r
          cases x with
          | exit id => rfl
          | normal => exact leaveF_eq (P := P) rund fn a none st
          | ret => exact leaveF_eq (P := P) rund fn a none st
          | pan v => exact leaveF_eq (P := P) rund fn a (some v) st
        · rw [if_neg h, if_neg]
          intro q
          rw [Bool.and_eq_true] at q
          exact h ⟨Nat.le_of_ble_eq_true q.1, Nat.le_of_ble_eq_true q.2⟩
def evF (P : Program) (sm : Summary) (m : Nat) (n : Nat) : RunF :=
  Nat.rec (motive := fun _ => RunF) (fun _ _ _ => .fail 90) (fun n ih => evStepF ih (callF P sm m ih (evD P sm n) (callE P sm (ev P sm n) (evD P sm n))) P) n
theorem evF_eq {m : Nat} (hall : ∀ f, hasB m f = true → okFn P f = true) : ∀ (n : Nat) (c : Code), okC c = true → evF P sm m n c = ev P sm n c
  | 0, c, _ => rfl
  | n + 1, c, ok => by
    show evStepF (evF P sm m n) (callF P sm m (evF P sm m n) (evD P sm n) (callE P sm (ev P sm n) (evD P sm n))) P c = _
    rw [evStepF_eq (sm := sm) (d := evD P sm n) (evF_eq hall n) (callF_eq hall (evF_eq hall n)) ok]
    funext a st
    rw [ev_succ]
def topF (r : CR × St) : T V := Prod.rec (motive := fun _ => T V) (fun c _ => CR.rec (motive := fun _ => T V) (fun v => .ret v) (fun _ => .fail 88) c) r
def callTopF (P : Program) (sm : Summary) (l : List FuncId) (n : Nat) (f : FuncId) (args : List V) (facts : List (B × Bool)) : T V :=
  (callF P sm (bitsOf l) (evF P sm (bitsOf l) n) (evD P sm n) (callE P sm (ev P sm n) (evD P sm n)) f args (.mk .none facts)).bindF topF
theorem callTopF_eq {l : List FuncId} (hl : okFns P l = true) (n : Nat) (f : FuncId) (args : List V) (facts : List (B × Bool)) : callTopF P sm l n f args facts = callTop P sm n f args facts := by
  unfold callTopF callTop
  have hall : ∀ f, hasB (bitsOf l) f = true → okFn P f = true := fun f h => okFns_mem hl (hasB_mem h)
  rw [callF_eq hall (evF_eq hall n), T.bindF_eq]
  refine T.bind_congr (fun r => ?_) _
  obtain ⟨c, st⟩ := r
  cases c <;> rfl
end
end
end Go.Proofs.YtbobnbndbgpanaaGreat.Sx
