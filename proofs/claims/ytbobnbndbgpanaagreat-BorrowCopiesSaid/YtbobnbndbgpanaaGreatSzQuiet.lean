/- What operations look at: their operands; and those that leave memory as it is, in two memories. -/
import Derived.Test.YtbobnbndbgpanaaGreatSzCode
namespace Go.Proofs.YtbobnbndbgpanaaGreat.Sx
open Go
set_option linter.unusedVariables false
set_option linter.unusedSimpArgs false
noncomputable section

section
variable {η : Env} {P : Program}

/-! ### Operands -/
theorem evalOs_congr {a a' : Regs} : ∀ {l : List Operand}, (∀ x ∈ l, evalO a x = evalO a' x) → evalOs a l = evalOs a' l
  | [], _ => rfl
  | x :: l, h => by unfold evalOs; rw [h x (by simp), evalOs_congr fun y hy => h y (by simp [hy])]
theorem evalPs_congr {a a' : Regs} : ∀ {l : List (Nat × Operand)}, (∀ p ∈ l, evalO a p.2 = evalO a' p.2) → evalPs a l = evalPs a' l
  | [], _ => rfl
  | (i, x) :: l, h => by
    have h1 := h (i, x) (by simp)
    simp only at h1
    unfold evalPs; rw [h1, evalPs_congr fun y hy => h y (by simp [hy])]
theorem litOf_congr {a a' : Regs} {d : Nat} {x : Option Operand} (h : ∀ y, x = some y → evalO a y = evalO a' y) : litOf a d x = litOf a' d x := by
  cases x with
  | none => rfl
  | some y => unfold litOf; simp only [h y rfl]
theorem boundsOf_congr {a a' : Regs} {len cap : Nat} {lo hi mx : Option Operand} (h1 : ∀ y, lo = some y → evalO a y = evalO a' y) (h2 : ∀ y, hi = some y → evalO a y = evalO a' y) (h3 : ∀ y, mx = some y → evalO a y = evalO a' y) :
    boundsOf a len cap lo hi mx = boundsOf a' len cap lo hi mx := by
  unfold boundsOf
  rw [litOf_congr h1, litOf_congr h2, litOf_congr h3]
theorem opBuiltin_congr {a a' : Regs} {st : St} {b : Builtin} {c : Call} (h : evalOs a c.args.toList = evalOs a' c.args.toList) : opBuiltin P a st b c = opBuiltin P a' st b c := by
  unfold opBuiltin; rw [h]
theorem opE_congr {a a' : Regs} {st : St} {o : Oper} (h : ∀ x ∈ o.op.operands, evalO a x = evalO a' x) : opF P a st o = opF P a' st o ∧ newE P a o = newE P a' o ∧ opX P a st o = opX P a' st o := by
  have hl : ∀ x ∈ o.op.operands.toList, evalO a x = evalO a' x := fun x hx => h x (by simpa using hx)
  unfold opF newE opX
  cases ho : o.op <;> rw [ho] at hl <;> dsimp only <;> simp only [Op.operands, Call.operands, List.mem_cons, List.not_mem_nil, or_false, forall_eq_or_imp, forall_eq, List.mem_map, Array.mem_toList_iff, Array.toList_append, List.mem_append] at hl
  case move x => exact ⟨by unfold opMove; rw [hl], rfl, rfl⟩
  case assign x => exact ⟨by unfold opMove; rw [hl], rfl, rfl⟩
  case pick c x y =>
    refine ⟨?_, rfl, rfl⟩
    unfold opPick opMove
    rw [hl.1]
    have hxy : ∀ t : Bool, evalO a (if t then x else y) = evalO a' (if t then x else y) := fun t => by cases t <;> simp [hl.2.1, hl.2.2]
    simp only [hxy]
  case box t x => exact ⟨rfl, by unfold newBox; rw [hl], rfl⟩
  case build t ps => refine ⟨?_, rfl, rfl⟩; unfold opBuild; rw [evalPs_congr (a := a) (a' := a')]; intro p hp; exact hl p.2 ⟨p, by simpa using hp, rfl⟩
  case buildSlice t n ps => refine ⟨rfl, ?_, rfl⟩; unfold newBuildSlice; rw [evalPs_congr (a := a) (a' := a')]; intro p hp; exact hl p.2 ⟨p, by simpa using hp, rfl⟩
  case insert t m k x => exact ⟨rfl, rfl, by unfold opMapUpdate; rw [hl.1, hl.2.1, hl.2.2]⟩
  case load t x => exact ⟨by unfold opLoad; rw [hl], rfl, rfl⟩
  case store t x y => exact ⟨rfl, rfl, by unfold opStore; rw [hl.1, hl.2]⟩
  case nilCheck x => exact ⟨by unfold opNil; rw [hl], rfl, rfl⟩
  case binOp op t x y yt => exact ⟨by unfold opBin; rw [hl.1, hl.2], rfl, rfl⟩
  case unOp op t x => exact ⟨by unfold opUn; rw [hl], rfl, rfl⟩
  case convert s d x => exact ⟨by unfold opConv; rw [hl], rfl, rfl⟩
  case makeInterface t x => exact ⟨by unfold opIface; rw [hl], rfl, rfl⟩
  case makeFunc fn f c =>
    refine ⟨?_, rfl, rfl⟩
    unfold opFunc
    rw [evalOs_congr (a := a) (a' := a') (l := f.toList) (fun x hx => hl x (.inl (by simpa using hx))), evalOs_congr (a := a) (a' := a') (l := c.toList) (fun x hx => hl x (.inr (by simpa using hx)))]
  case makeMap t r =>
    refine ⟨rfl, ?_, rfl⟩
    unfold newMakeMap
    cases r with
    | none => rfl
    | some x => simp only; rw [hl x (by simp)]
  case makeSlice t l c => exact ⟨rfl, by unfold newMakeSlice litI; rw [hl.1, hl.2], rfl⟩
  case slice t x lo hi mx =>
    refine ⟨?_, rfl, rfl⟩
    have h1 : evalO a x = evalO a' x := hl x (by simp)
    have h2 : ∀ y, lo = some y → evalO a y = evalO a' y := fun y hy => hl y (by simp [hy])
    have h3 : ∀ y, hi = some y → evalO a y = evalO a' y := fun y hy => hl y (by simp [hy])
    have h4 : ∀ y, mx = some y → evalO a y = evalO a' y := fun y hy => hl y (by simp [hy])
    unfold opSlice
    simp only [h1, boundsOf_congr h2 h3 h4, boundsOf_congr h2 h3 (mx := none) (fun y hy => by simp at hy)]
  case fieldAddr t x i => exact ⟨by unfold opFieldAddr; rw [hl], rfl, rfl⟩
  case field t x i => exact ⟨by unfold opField; rw [hl], rfl, rfl⟩
  case indexAddr t x i => exact ⟨by unfold opIndexAddr; rw [hl.1, hl.2], rfl, rfl⟩
  case index t x i => exact ⟨by unfold opIndex; rw [hl.1, hl.2], rfl, rfl⟩
  case lookup t x k ok => exact ⟨by unfold opLookup2 pmapOf opLookup; rw [hl.1, hl.2], rfl, rfl⟩
  case mapUpdate t m k x => exact ⟨rfl, rfl, by unfold opMapUpdate; rw [hl.1, hl.2.1, hl.2.2]⟩
  case typeAssert x s t ok => exact ⟨by unfold opAssert; rw [hl], rfl, rfl⟩
  case extract x i => exact ⟨by unfold opExtract; rw [hl], rfl, rfl⟩
  case call c =>
    have h2 : evalOs a c.args.toList = evalOs a' c.args.toList := evalOs_congr fun x hx => hl x (.inr (by simpa using hx))
    refine ⟨?_, rfl, ?_⟩
    · split
      · exact opBuiltin_congr h2
      · rfl
    · unfold opCall
      split
      · rename_i f hc
        have h1 : evalO a f = evalO a' f := hl f (.inl (by rw [hc]; simp))
        rw [h1, h2]
      · rw [h2]
      · rfl
      · exact opBuiltin_congr h2
      · rfl
  case defer c =>
    have h2 : evalOs a c.args.toList = evalOs a' c.args.toList := evalOs_congr fun x hx => hl x (.inr (by simpa using hx))
    refine ⟨rfl, rfl, ?_⟩
    unfold opDefer
    split
    · rename_i f hc
      have h1 : evalO a f = evalO a' f := hl f (.inl (by rw [hc]; simp))
      rw [h1, h2]
    · rfl
  case panic x => exact ⟨rfl, rfl, by unfold opPanic; rw [hl]⟩
  case range t x => exact ⟨rfl, rfl, by unfold opRange; rw [hl]⟩
  case next x s => exact ⟨rfl, rfl, by unfold opNext; rw [hl]⟩
  case entry x => exact ⟨rfl, rfl, by unfold opEntry; rw [hl]⟩
  case mapEntry t m k => exact ⟨rfl, rfl, by unfold opMapEntry; rw [hl.1, hl.2]⟩
  case entryStore t m s x => exact ⟨rfl, rfl, by unfold opEntryStore; rw [hl.1, hl.2.1, hl.2.2]⟩
  all_goals exact ⟨rfl, rfl, rfl⟩

/-! ### Two memories -/
def Fok (η : Env) (st : St) : Prop := ∀ p ∈ st.facts, p.1.den η = p.2
def Two (η : Env) (h h' : Hp) (t t' : T R) : Prop :=
  ∀ r, t.sel η = some r → ∃ v s s', r = .val v s ∧ t'.sel η = some (.val v s') ∧ s.heap = h ∧ s'.heap = h' ∧ Fok η s ∧ Fok η s'
/-- All that one memory holds another one holds too. -/
def Hp.le (h h' : Hp) : Prop := ∀ k o, h.get k = some o → o.isDead = false → h'.get k = some o
variable {st st' : St}
theorem two_ret (f : Fok η st) (f' : Fok η st') (v : V) : Two η st.heap st'.heap (.ret (.val v st)) (.ret (.val v st')) := by
  intro r h
  simp only [T.sel, Option.some.injEq] at h; subst h
  exact ⟨v, st, st', rfl, rfl, rfl, rfl, f, f'⟩
theorem two_fail (h h' : Hp) (n : Nat) (t : T R) : Two η h h' (.fail n) t := fun r e => by simp [T.sel] at e
theorem two_opt (f : Fok η st) (f' : Fok η st') (n : Nat) (o : Option V) : Two η st.heap st'.heap (T.opt n (o.map fun v => .val v st)) (T.opt n (o.map fun v => .val v st')) := by
  cases o with
  | none => exact two_fail _ _ _ _
  | some v => exact two_ret f f' v
theorem two_br {h h' : Hp} (f : Fok η st) (f' : Fok η st') (b : B) {k k' : Bool → St → T R}
    (hk : ∀ s s', s.heap = st.heap → s'.heap = st'.heap → Fok η s → Fok η s' → Two η h h' (k (b.den η) s) (k' (b.den η) s')) : Two η h h' (br st b k) (br st' b k') := by
  have one : ∀ {α : Type} (st : St) (b : B) (_ : Fok η st), ∃ s : St, s.heap = st.heap ∧ Fok η s ∧ ∀ k : Bool → St → T α, (br st b k).sel η = (k (b.den η) s).sel η := by
    intro α st b f
    unfold br
    split
    · rename_i x; exact ⟨st, rfl, f, fun k => rfl⟩
    · rename_i b
      simp only [B.den]
      cases hf : find b st.facts with
      | some x => rw [find_true f hf]; exact ⟨st, rfl, f, fun k => rfl⟩
      | none =>
        cases e : b.den η with
        | true =>
          refine ⟨{ st with facts := (b, true) :: st.facts }, rfl, ?_, fun k => by simp [T.sel, e]⟩
          intro p hp; simp at hp; rcases hp with rfl | hp
          · exact e
          · exact f p hp
        | false =>
          refine ⟨{ st with facts := (b, false) :: st.facts }, rfl, ?_, fun k => by simp [T.sel, e]⟩
          intro p hp; simp at hp; rcases hp with rfl | hp
          · exact e
          · exact f p hp
    · cases hf : find b st.facts with
      | some x => rw [find_true f hf]; exact ⟨st, rfl, f, fun k => rfl⟩
      | none =>
        cases e : b.den η with
        | true =>
          refine ⟨{ st with facts := (b, true) :: st.facts }, rfl, ?_, fun k => by simp [T.sel, e]⟩
          intro p hp; simp at hp; rcases hp with rfl | hp
          · exact e
          · exact f p hp
        | false =>
          refine ⟨{ st with facts := (b, false) :: st.facts }, rfl, ?_, fun k => by simp [T.sel, e]⟩
          intro p hp; simp at hp; rcases hp with rfl | hp
          · exact e
          · exact f p hp
  obtain ⟨s, e1, e2, e3⟩ := one (α := R) st b f
  obtain ⟨s', g1, g2, g3⟩ := one (α := R) st' b f'
  intro r hr
  rw [e3] at hr
  rw [g3]
  exact hk s s' e1 g1 e2 g2 r hr
theorem two_forkGo {h h' : Hp} (e : E) {k k' : Nat → St → T R} : ∀ (m j : Nat) (st st' : St), Fok η st → Fok η st' →
    (∀ i s s', s.heap = st.heap → s'.heap = st'.heap → Fok η s → Fok η s' → Two η h h' (k i s) (k' i s')) → Two η h h' (forkGo e k m j st) (forkGo e k' m j st')
  | 0, j, st, st', _, _, _ => two_fail _ _ _ _
  | m + 1, j, st, st', f, f', hk => by
    unfold forkGo
    refine two_br f f' _ fun s s' e1 e2 f1 f2 => ?_
    split
    · exact hk j s s' e1 e2 f1 f2
    · exact two_forkGo e m (j + 1) s s' f1 f2 fun i u u' g1 g2 => hk i u u' (g1.trans e1) (g2.trans e2)
theorem two_fork {h h' : Hp} (f : Fok η st) (f' : Fok η st') (e : E) (n : Nat) {k k' : Nat → St → T R}
    (hk : ∀ i s s', s.heap = st.heap → s'.heap = st'.heap → Fok η s → Fok η s' → Two η h h' (k i s) (k' i s')) : Two η h h' (fork st e n k) (fork st' e n k') := by
  unfold fork
  split
  · split
    · exact hk _ st st' rfl rfl f f'
    · exact two_fail _ _ _ _
  · exact two_forkGo e n 0 st st' f f' hk
theorem two_findK {h h' : Hp} (d : TypeDesc) (x : V) {k k' : Option (Nat × V) → St → T R} : ∀ (l : List (V × V × Nat)) (i : Nat) (st st' : St), Fok η st → Fok η st' →
    (∀ o s s', s.heap = st.heap → s'.heap = st'.heap → Fok η s → Fok η s' → Two η h h' (k o s) (k' o s')) → Two η h h' (findK d x k l i st) (findK d x k' l i st')
  | [], i, st, st', f, f', hk => hk none st st' rfl rfl f f'
  | (y, v, n) :: l, i, st, st', f, f', hk => by
    unfold findK
    split
    · split
      · refine two_br f f' _ fun s s' e1 e2 f1 f2 => ?_
        split
        · exact hk _ s s' e1 e2 f1 f2
        · exact two_findK d x l (i + 1) s s' f1 f2 fun o u u' g1 g2 => hk o u u' (g1.trans e1) (g2.trans e2)
      · exact two_fail _ _ _ _
    · exact two_fail _ _ _ _
theorem two_optG {α : Type} (f : Fok η st) (f' : Fok η st') (n : Nat) (o : Option α) (g : α → V) : Two η st.heap st'.heap (T.opt n (o.map fun v => .val (g v) st)) (T.opt n (o.map fun v => .val (g v) st')) := by
  cases o with
  | none => exact two_fail _ _ _ _
  | some v => exact two_ret f f' _
theorem two_here {s s' : St} {v : V} (e : s.heap = st.heap) (e' : s'.heap = st'.heap) (f : Fok η s) (f' : Fok η s') : Two η st.heap st'.heap (.ret (.val v s)) (.ret (.val v s')) := by
  rw [← e, ← e']; exact two_ret f f' v
theorem two_hereO {s s' : St} {n : Nat} {o : Option V} (e : s.heap = st.heap) (e' : s'.heap = st'.heap) (f : Fok η s) (f' : Fok η s') : Two η st.heap st'.heap (T.opt n (o.map fun v => .val v s)) (T.opt n (o.map fun v => .val v s')) := by
  rw [← e, ← e']; exact two_opt f f' n o

/-- Operations that do not look at memory. -/
def memless (o : Oper) : Bool :=
  match o.op with
  | .load _ _ | .lookup _ _ _ _ | .convert _ _ _ => false
  | .call c => match c.callee with
    | .builtin .len => false
    | _ => true
  | _ => true
theorem two_intOp (f : Fok η st) (f' : Fok η st') (op : BinOp) (k : IntKind) (x y : E) : Two η st.heap st'.heap (intOp st op k x y) (intOp st' op k x y) := by
  unfold intOp
  cases op <;> simp only
  case and =>
    unfold andOp
    split
    · split
      · exact two_fork f f' _ _ fun i s s' e1 e2 f1 f2 => two_here e1 e2 f1 f2
      · exact two_ret f f' _
    · exact two_ret f f' _
  all_goals first
    | exact two_ret f f' _
    | exact two_fail _ _ _ _
    | (refine two_br f f' _ fun s s' e1 e2 f1 f2 => ?_; split <;> first | exact two_fail _ _ _ _ | exact two_here e1 e2 f1 f2)
theorem two_opF (f : Fok η st) (f' : Fok η st') (a : Regs) (o : Oper) (hm : memless o = true ∨ Hp.le st.heap st'.heap) : Two η st.heap st'.heap (opF P a st o) (opF P a st' o) := by
  unfold opF
  cases ho : o.op <;> simp only <;> try exact two_fail _ _ _ _
  case move x => exact two_opt f f' _ _
  case assign x => exact two_opt f f' _ _
  case pick c x y =>
    unfold opPick
    split
    · exact two_br f f' _ fun s s' e1 e2 f1 f2 => two_hereO e1 e2 f1 f2
    · exact two_fail _ _ _ _
  case build t ps =>
    unfold opBuild
    split
    · split
      · exact two_optG f f' _ _ _
      · exact two_fail _ _ _ _
    · split
      · exact two_optG f f' _ _ _
      · exact two_fail _ _ _ _
    · exact two_fail _ _ _ _
  case load t x =>
    have hle : Hp.le st.heap st'.heap := by
      rcases hm with hm | hm
      · simp [memless, ho] at hm
      · exact hm
    have hc : ∀ k cs, st.cells k = some cs → st'.cells k = some cs := by
      intro k cs h
      unfold St.cells at h ⊢
      split at h
      · rename_i cs' e p hk
        rw [hle k _ hk rfl]; exact h
      · simp at h
    unfold opLoad
    split
    · rename_i k o _
      cases hv : loadV P st t k o with
      | none => exact two_fail _ _ _ _
      | some v =>
        have : loadV P st' t k o = some v := by
          unfold loadV at hv ⊢
          split at hv
          · rename_i n cs h1 h2 h3; rw [h1, h2, hc _ _ h3]; exact hv
          · rename_i cs h1 h3; rw [h1, hc _ _ h3]; exact hv
          · simp at hv
        rw [this]
        exact two_ret f f' v
    · exact two_fail _ _ _ _
  case nilCheck x => unfold opNil; split <;> first | exact two_ret f f' _ | exact two_fail _ _ _ _
  case binOp op t x y yt =>
    unfold opBin
    split
    · cases op <;> simp only <;> first
        | (split
           · exact two_intOp f f' _ _ _ _
           · exact two_fail _ _ _ _)
        | (unfold shiftOp
           refine two_br f f' _ fun s s' e1 e2 f1 f2 => ?_
           split
           · exact two_fail _ _ _ _
           · exact two_here e1 e2 f1 f2)
    · unfold strOp; split <;> first | exact two_ret f f' _ | exact two_fail _ _ _ _ | (split <;> first | exact two_ret f f' _ | exact two_fail _ _ _ _)
    · split
      · exact two_fail _ _ _ _
      · exact two_optG f f' _ _ _
      · exact two_optG f f' _ _ _
      · exact two_fail _ _ _ _
    · exact two_fail _ _ _ _
  case unOp op t x => unfold opUn; split <;> first | exact two_ret f f' _ | exact two_fail _ _ _ _
  case convert s d x =>
    have hle : Hp.le st.heap st'.heap := by
      rcases hm with hm | hm
      · simp [memless, ho] at hm
      · exact hm
    have hc : ∀ k cs, st.cells k = some cs → st'.cells k = some cs := by
      intro k cs h
      unfold St.cells at h ⊢
      split at h
      · rename_i cs' e p hk
        rw [hle k _ hk rfl]; exact h
      · simp at h
    unfold opConv
    split
    · exact two_ret f f' _
    · exact two_ret f f' _
    · split
      · unfold strOf
        split
        · rename_i k o len c x _ _
          cases hk : st.cells k with
          | none => exact two_fail _ _ _ _
          | some cs =>
            rw [hc k cs hk]
            simp only
            split
            · split
              · exact two_ret f f' _
              · exact two_fail _ _ _ _
            · exact two_fail _ _ _ _
        · exact two_fail _ _ _ _
      · exact two_fail _ _ _ _
    · exact two_fail _ _ _ _
  case makeInterface t x => unfold opIface; split <;> first | exact two_ret f f' _ | exact two_fail _ _ _ _
  case makeFunc fn fs c => unfold opFunc; split <;> first | exact two_ret f f' _ | exact two_fail _ _ _ _
  case slice t x lo hi mx =>
    unfold opSlice
    split <;> (try exact two_fail _ _ _ _) <;> (split <;> (try exact two_fail _ _ _ _)) <;> (try exact two_ret f f' _)
    split
    · split
      · exact two_ret f f' _
      · split
        · exact two_ret f f' _
        · exact two_ret f f' _
    · exact two_fail _ _ _ _
  case fieldAddr t x i =>
    unfold opFieldAddr
    split
    · split
      · split
        · exact two_ret f f' _
        · exact two_fail _ _ _ _
      · exact two_fail _ _ _ _
    · exact two_fail _ _ _ _
  case field t x i =>
    unfold opField
    split
    · split
      · exact two_opt f f' _ _
      · exact two_fail _ _ _ _
    · exact two_fail _ _ _ _
  case indexAddr t x i =>
    unfold opIndexAddr
    split
    · split
      · exact two_fork f f' _ _ fun i s s' e1 e2 f1 f2 => two_here e1 e2 f1 f2
      · exact two_fail _ _ _ _
    · split
      · exact two_fork f f' _ _ fun i s s' e1 e2 f1 f2 => two_here e1 e2 f1 f2
      · exact two_fail _ _ _ _
    · exact two_fail _ _ _ _
  case index t x i =>
    unfold opIndex
    split
    · split
      · exact two_fork f f' _ _ fun i s s' e1 e2 f1 f2 => two_hereO e1 e2 f1 f2
      · exact two_fail _ _ _ _
    · refine two_fork f f' _ _ fun i s s' e1 e2 f1 f2 => ?_
      rename_i l _ _ _ _ _
      have := two_hereO (st := st) (st' := st') (n := 44) (o := (l[i]?).map fun c => V.int .u8 (.lit c.toNat)) e1 e2 f1 f2
      simpa [Option.map_map, Function.comp_def] using this
    · exact two_fail _ _ _ _
  case lookup t x k ok =>
    have hle : Hp.le st.heap st'.heap := by
      rcases hm with hm | hm
      · simp [memless, ho] at hm
      · exact hm
    unfold opLookup2
    cases hp : pmapOf a st x with
    | some es =>
      have hp' : pmapOf a st' x = some es := by
        unfold pmapOf at hp ⊢
        split at hp
        · rename_i r _
          split at hp
          · rename_i es' hr
            rw [hle _ _ hr rfl]; exact hp
          · simp at hp
        · simp at hp
      rw [hp']
      simp only
      split
      · split
        · split
          · split <;> first | exact two_ret f f' _ | exact two_fail _ _ _ _
          · exact two_fail _ _ _ _
        · exact two_fail _ _ _ _
      · exact two_fail _ _ _ _
    | none =>
    simp only
    cases hp' : pmapOf a st' x with
    | some es' =>
      simp only
      have : ∀ t k ok, (opLookup P a st t x k ok) = (opLookup P a st t x k ok) := fun _ _ _ => rfl
      unfold opLookup
      split
      · rename_i kt el mo kv _ hxx _
        split
        · rename_i d z es hd hz hmo
          unfold pmapOf at hp'
          rw [hxx] at hp'
          cases mo with
          | none => simp at hp'
          | some r =>
            unfold mapOf at hmo
            simp only at hmo hp'
            cases hg : st.heap.get r with
            | none => rw [hg] at hmo; simp at hmo
            | some o =>
              rw [hg] at hmo
              cases o <;> simp at hmo
              rw [hle _ _ hg rfl] at hp'
              simp at hp'
        · exact two_fail _ _ _ _
      · exact two_fail _ _ _ _
    | none =>
    simp only
    unfold opLookup
    split
    · rename_i kt el mo kv _ _ _
      split
      · rename_i d z es hd hz hmo
        have : mapOf st' mo = some es := by
          unfold mapOf at hmo ⊢
          split at hmo
          · exact hmo
          · rename_i r
            split at hmo
            · rename_i es' c hr
              rw [hle _ _ hr rfl]; exact hmo
            · simp at hmo
        simp only [hd, hz, this]
        split
        · refine two_findK d kv es 0 st st' f f' fun o s s' e1 e2 f1 f2 => ?_
          split <;> exact two_here e1 e2 f1 f2
        · exact two_fail _ _ _ _
      · exact two_fail _ _ _ _
    · exact two_fail _ _ _ _
  case typeAssert x s t ok =>
    unfold opAssert
    split
    · split
      · exact two_fail _ _ _ _
      · split
        · split <;> first | exact two_ret f f' _ | exact two_fail _ _ _ _
        · split
          · exact two_ret f f' _
          · split <;> first | exact two_ret f f' _ | exact two_fail _ _ _ _
        · exact two_fail _ _ _ _
    · exact two_fail _ _ _ _
  case extract x i =>
    unfold opExtract
    split
    · exact two_opt f f' _ _
    · exact two_fail _ _ _ _
  case call c =>
    split
    · rename_i b hcb
      unfold opBuiltin
      split
      · have hle : Hp.le st.heap st'.heap := by
          rcases hm with hm | hm
          · simp [memless, ho, hcb] at hm
          · exact hm
        split
        · split
          case h_5 =>
            rename_i mo _ _
            cases hmo : mapOf st mo with
            | none => exact two_fail _ _ _ _
            | some es =>
              have : mapOf st' mo = some es := by
                unfold mapOf at hmo ⊢
                split at hmo
                · exact hmo
                · rename_i r
                  split at hmo
                  · rename_i es' c hr
                    rw [hle _ _ hr rfl]; exact hmo
                  · simp at hmo
              rw [this]
              exact two_ret f f' _
          all_goals first | exact two_ret f f' _ | exact two_fail _ _ _ _
        · exact two_fail _ _ _ _
      · split
        · exact two_br f f' _ fun s s' e1 e2 f1 f2 => two_here e1 e2 f1 f2
        · exact two_fail _ _ _ _
      · split
        · exact two_br f f' _ fun s s' e1 e2 f1 f2 => two_here e1 e2 f1 f2
        · exact two_fail _ _ _ _
      · exact two_fail _ _ _ _
    · exact two_fail _ _ _ _
end
end
end Go.Proofs.YtbobnbndbgpanaaGreat.Sx
