/- Regions whose order is open: one order is run, and what was met on the way is kept. -/
import Derived.Test.YtbobnbndbgpanaaGreatSzPlan
namespace Go.Proofs.YtbobnbndbgpanaaGreat.Sx
open Go
set_option linter.unusedVariables false
set_option linter.unusedSimpArgs false
noncomputable section

/-! ### Terms that are the same -/
def Fn.beq : Fn → Fn → Bool
  | .func f, .func g => Nat.beq f g
  | _, _ => false
theorem Fn.beq_eq {f g : Fn} (h : Fn.beq f g = true) : f = g := by
  unfold Fn.beq at h
  split at h
  · rw [Nat.eq_of_beq_eq_true h]
  · simp at h
def V.beq : Nat → V → V → Bool
  | 0, _, _ => false
  | n + 1, x, y => match x, y with
    | .bool a, .bool b => decide (a = b)
    | .int k a, .int k' b => decide (k = k') && a.beq b
    | .str a, .str b => a.beq b
    | .ptr a, .ptr b => decide (a = b)
    | .slice a l c e, .slice a' l' c' e' => decide (a = a') && Nat.beq l l' && Nat.beq c c' && (e == e')
    | .sliceE, .sliceE => true
    | .map a, .map b => decide (a = b)
    | .func f a c, .func f' a' c' => Fn.beq f f' && listB n a a' && listB n c c'
    | .nilFunc, .nilFunc => true
    | .iface t v, .iface t' v' => Nat.beq t t' && V.beq n v v'
    | .nilIface, .nilIface => true
    | .agg a, .agg b => listB n a b
    | .tuple a, .tuple b => listB n a b
    | _, _ => false
where
  listB (n : Nat) : List V → List V → Bool
    | [], [] => true
    | x :: l, y :: m => V.beq n x y && listB n l m
    | _, _ => false
theorem V.beq_eq : ∀ (n : Nat) (x y : V), V.beq n x y = true → x = y := by
  intro n
  induction n with
  | zero => intro x y h; simp [V.beq] at h
  | succ n ih =>
    have hl : ∀ l m : List V, V.beq.listB n l m = true → l = m := by
      intro l
      induction l with
      | nil => intro m h; cases m <;> simp [V.beq.listB] at h ⊢
      | cons x l il =>
        intro m h
        cases m with
        | nil => simp [V.beq.listB] at h
        | cons y m =>
          simp only [V.beq.listB, Bool.and_eq_true] at h
          rw [ih x y h.1, il m h.2]
    intro x y h
    unfold V.beq at h
    split at h
    · rw [of_decide_eq_true h]
    · simp only [Bool.and_eq_true, decide_eq_true_eq] at h; rw [h.1, E.beq_eq h.2]
    · rw [S.beq_eq h]
    · rw [of_decide_eq_true h]
    · simp only [Bool.and_eq_true, decide_eq_true_eq, beq_iff_eq] at h
      rw [h.1.1.1, Nat.eq_of_beq_eq_true h.1.1.2, Nat.eq_of_beq_eq_true h.1.2, h.2]
    · rfl
    · rw [of_decide_eq_true h]
    · simp only [Bool.and_eq_true] at h; rw [Fn.beq_eq h.1.1, hl _ _ h.1.2, hl _ _ h.2]
    · rfl
    · simp only [Bool.and_eq_true] at h; rw [Nat.eq_of_beq_eq_true h.1, ih _ _ h.2]
    · rfl
    · rw [hl _ _ h]
    · rw [hl _ _ h]
    · simp at h

section
variable {η : Env} {P : Program}

/-! ### One order is run -/
def baseOf (base : List Hp) (h : Hp) : Hp :=
  match base with
  | b :: _ => b
  | [] => h
/-- In memories of before, too. -/
def checkH (P : Program) (a : Regs) (o : Oper) (fs : List (B × Bool)) (v : V) : List Hp → Nat → Bool
  | _, 0 => true
  | [], _ + 1 => true
  | h :: hs, n + 1 => (match opF P a ⟨h, fs⟩ o with
    | .ret (.val v' _) => V.beq 8 v v'
    | _ => false) && checkH P a o fs v hs n
def goD (P : Program) (call : CallF) (ms : List Nat) (i b : Nat) (rest : List (Nat × Nat)) (o : Oper) (k : Regs → St → List Hp → T Ox) (a : Regs) (st : St) (base : List Hp) : T Ox :=
  match kindOf o with
  | .new => match newE P a o with
    | some n => k (putV a o.dst (n.f st.heap.size)) (st.new n.o) base
    | none => .fail 161
  | .quiet => (opF P a (if memless o then st else ⟨baseOf base st.heap, st.facts⟩) o).bind fun r => match r with
    | .val v s => if memless o || checkH P a o s.facts v base.tail b then k (putV a o.dst v) ⟨st.heap, s.facts⟩ base else .fail 162
    | _ => .fail 163
  | .other => (oneE P call a st o).bind fun r => match r with
    | .val v st' => if Nat.ble st.heap.size st'.heap.size then k (putV a o.dst v) st' (st'.heap :: base) else .fail 168
    | .pan v st => if rest.all (fun p => befB ms i p.1) then .ret (.pan v a st) else .fail 164
    | .put _ _ _ => .fail 165
def runD (P : Program) (call : CallF) (ops : Array Oper) (ms : List Nat) : List (Nat × Nat) → Regs → St → List Hp → T Ox
  | [], a, st, _ => .ret (.ok a st)
  | (i, b) :: rest, a, st, base =>
    match ops[i]? with
    | none => .fail 160
    | some o => match o.guard with
      | none => goD P call ms i b rest o (runD P call ops ms rest) a st base
      | some (j, want) => match slotOf ops j with
        | none => .fail 166
        | some d => match a.get d with
          | .bool b' => br st b' fun t st => if t = want then goD P call ms i b rest o (runD P call ops ms rest) a st base else runD P call ops ms rest (putV a o.dst undefV) st base
          | .tuple [] => runD P call ops ms rest (putV a o.dst undefV) st base
          | _ => .fail 167

/-! ### What was met on the way -/
inductive SpK where
  | skip
  | quiet
  | new (n : New)
  | eff
def SpK.eff? : SpK → Bool
  | .eff => true
  | _ => false
structure Sp where
  i : Nat
  o : Oper
  k : SpK
  w : V
  a : Regs
  h : Hp
  base : List Hp
  h' : Hp
def EffAt (η : Env) (P : Program) (a0 : Regs) (h : Hp) (o : Oper) (r : W1) : Prop :=
  ∀ a φ A W, (∀ x ∈ o.op.operands, evalO a x = evalO a0 x) → AR η φ a A → SR η φ ⟨h, []⟩ W → OneOk η P φ W r ((execOp A.eval o).run P W)
def SpOk (η : Env) (P : Program) (ops : Array Oper) (b : Nat) (s : Sp) : Prop :=
  ops[s.i]? = some s.o ∧ match s.k with
  | .skip => UnwV η ops s.a s.o ∧ s.w = undefV ∧ s.h' = s.h
  | .quiet => WantV η ops s.a s.o ∧ s.h' = s.h ∧ isEff s.o = false ∧
      ((memless s.o = true ∧ ∃ f s1, Fok η ⟨s.h, f⟩ ∧ (opF P s.a ⟨s.h, f⟩ s.o).sel η = some (.val s.w s1)) ∨
       (memless s.o = false ∧ ∀ j hb, j ≤ b → s.base[j]? = some hb → ∃ f s1, Fok η ⟨hb, f⟩ ∧ (opF P s.a ⟨hb, f⟩ s.o).sel η = some (.val s.w s1)))
  | .new n => WantV η ops s.a s.o ∧ isEff s.o = false ∧ newE P s.a s.o = some n ∧ s.w = n.f s.h.size ∧ s.h' = s.h.push n.o
  | .eff => WantV η ops s.a s.o ∧ isEff s.o = true ∧ EffAt η P s.a s.h s.o (.val s.w ⟨s.h', []⟩) ∧ s.h.size ≤ s.h'.size
def Chain : List Sp → Regs → Hp → List Hp → Regs → Hp → Prop
  | [], a, h, _, a', h' => a' = a ∧ h' = h
  | s :: l, a, h, base, a', h' => s.a = a ∧ s.h = h ∧ s.base = base ∧ Chain l (putV a s.o.dst s.w) s.h' (if s.k.eff? then s.h' :: base else base) a' h'
/-- Somewhere they stand for something. -/
def Mod (η : Env) (a : Regs) (h : Hp) : Prop := ∃ φ A W, AR η φ a A ∧ SR η φ ⟨h, []⟩ W
/-- What a run of one order tells. -/
def Told (η : Env) (P : Program) (ops : Array Oper) (items : List (Nat × Nat)) (a : Regs) (h : Hp) (base : List Hp) (ox : Ox) : Prop :=
  ∃ l : List Sp, l.length ≤ items.length ∧ (∀ (p : Nat) (s : Sp) (it : Nat × Nat), l[p]? = some s → items[p]? = some it → s.i = it.1 ∧ SpOk η P ops it.2 s ∧ Mod η s.a s.h) ∧
    match ox with
    | .ok a' st' => l.length = items.length ∧ Chain l a h base a' st'.heap ∧ Fok η st'
    | .pan v a' st' => ∃ (h1 : Hp) (it : Nat × Nat) (rest : List (Nat × Nat)) (o : Oper), items.drop l.length = it :: rest ∧ Chain l a h base a' h1 ∧ ops[it.1]? = some o ∧ isEff o = true ∧ WantV η ops a' o ∧
        EffAt η P a' h1 o (.pan v ⟨st'.heap, []⟩) ∧ Fok η st' ∧ Mod η a' h1 ∧ ∀ p ∈ rest, befB (masks ops) it.1 p.1 = true

theorem Told.cons {ops : Array Oper} {i b : Nat} {rest : List (Nat × Nat)} {a : Regs} {h : Hp} {base : List Hp} {ox : Ox} (s : Sp) (h1 : s.i = i) (h2 : SpOk η P ops b s) (hm : Mod η s.a s.h) (h3 : s.a = a) (h4 : s.h = h) (h5 : s.base = base)
    (ht : Told η P ops rest (putV a s.o.dst s.w) s.h' (if s.k.eff? then s.h' :: base else base) ox) : Told η P ops ((i, b) :: rest) a h base ox := by
  obtain ⟨l, g1, g2, g3⟩ := ht
  refine ⟨s :: l, by simp; exact g1, ?_, ?_⟩
  · intro p s' it hp hi
    cases p with
    | zero => simp at hp hi; subst hp; subst hi; exact ⟨h1, h2, hm⟩
    | succ p => exact g2 p s' it (by simpa using hp) (by simpa using hi)
  · cases ox with
    | ok a' st' => exact ⟨by simp; exact g3.1, ⟨h3, h4, h5, g3.2.1⟩, g3.2.2⟩
    | pan v a' st' =>
      obtain ⟨h1', it, rest', o, e1, e2, e3⟩ := g3
      exact ⟨h1', it, rest', o, by simpa using e1, ⟨h3, h4, h5, e2⟩, e3⟩

theorem SR.with {φ : Place} {st st' : St} {W : World} (h : SR η φ st W) (e : st'.heap = st.heap) (f : Fok η st') : SR η φ st' W := by
  refine ⟨?_, ?_, ?_, f⟩
  · rw [e]; exact h.obj
  · rw [e]; exact h.dom
  · rw [e]; exact h.sep
theorem fok_nil (h : Hp) : Fok η ⟨h, []⟩ := fun p hp => by simp at hp
def W1.bare : W1 → W1
  | .val v st => .val v ⟨st.heap, []⟩
  | .pan v st => .pan v ⟨st.heap, []⟩
  | .put f args st => .put f args ⟨st.heap, []⟩
theorem SR.bare {φ : Place} {st : St} {W : World} (h : SR η φ st W) : SR η φ ⟨st.heap, []⟩ W := h.with rfl (fok_nil _)
theorem OneOk.bare {φ : Place} {W : World} {r : W1} {res : Result Next} (h : OneOk η P φ W r res) : OneOk η P φ W r.bare res := by
  cases r with
  | val v st =>
    rcases h with ⟨v', W', φ', h1, h2, h3, h4⟩ | ⟨rfl, W', φ', h1, h3, h4⟩ | ⟨f, args, W1, h1, h2⟩
    · exact .inl ⟨v', W', φ', h1, h2, h3.bare, h4⟩
    · exact .inr (.inl ⟨rfl, W', φ', h1, h3.bare, h4⟩)
    · refine .inr (.inr ⟨f, args, W1, h1, h2.mono ?_⟩)
      rintro e W2 ⟨φ2, v', rfl, g1, g2, g3⟩
      exact ⟨φ2, v', rfl, g1, g2.bare, g3⟩
  | pan v st =>
    rcases h with ⟨v', W', φ', h1, h2, h3, h4⟩ | ⟨f, args, W1, h1, h2⟩
    · exact .inl ⟨v', W', φ', h1, h2, h3.bare, h4⟩
    · refine .inr ⟨f, args, W1, h1, h2.mono ?_⟩
      rintro e W2 ⟨φ2, ch, rfl, g1, g2, g3⟩
      exact ⟨φ2, ch, rfl, g1, g2.bare, g3⟩
  | put f args st =>
    obtain ⟨d, W', φ', h1, h2, h3, h4⟩ := h
    exact ⟨d, W', φ', h1, h2, h3.bare, h4⟩
theorem oneE_congr {call : CallF} {a a' : Regs} {st : St} {o : Oper} (h : ∀ x ∈ o.op.operands, evalO a x = evalO a' x) : oneE P call a st o = oneE P call a' st o := by
  obtain ⟨h1, h2, h3⟩ := opE_congr (P := P) (st := st) h
  unfold oneE opE
  rw [h1, h2, h3]
theorem effAt_of (hP : Plain P) {call : CallF} (hcall : CallOk η P call) {a : Regs} {st : St} {o : Oper} {r : W1} (hf : Fok η st) (h : (oneE P call a st o).sel η = some r) :
    EffAt η P a st.heap o r.bare := by
  intro a' φ A W hx ha hs
  rw [← oneE_congr hx] at h
  exact (oneE_ok hP hcall ha (hs.with (st' := st) rfl hf) h).bare
theorem OneOk.some {φ : Place} {W : World} {v : V} {st : St} {res : Result Next} (h : OneOk η P φ W (.val v st) res) : ∃ φ' v' W', VR η φ' v v' ∧ SR η φ' st W' ∧ Ext φ φ' W W' := by
  rcases h with ⟨v', W', φ', h1, h2, h3, h4⟩ | ⟨rfl, W', φ', h1, h3, h4⟩ | ⟨f, args, W1, h1, h2⟩
  · exact ⟨φ', v', W', h2, h3, h4⟩
  · exact ⟨φ', undef, W', undef_vr, h3, h4⟩
  · obtain ⟨e, w', fr, ⟨φ', v', _, g1, g2, g3⟩, _⟩ := h2 []
    exact ⟨φ', v', w', g1, g2, g3⟩
theorem OneOk.somePan {φ : Place} {W : World} {v : V} {st : St} {res : Result Next} (h : OneOk η P φ W (.pan v st) res) : ∃ φ' W', SR η φ' st W' := by
  rcases h with ⟨v', W', φ', h1, h2, h3, h4⟩ | ⟨f, args, W1, h1, h2⟩
  · exact ⟨φ', W', h3⟩
  · obtain ⟨e, w', fr, ⟨φ', ch, _, g1, g2, g3⟩, _⟩ := h2 []
    exact ⟨φ', w', g2⟩
theorem br_one {α : Type} (st : St) (b : B) (f : Fok η st) : ∃ s : St, s.heap = st.heap ∧ Fok η s ∧ ∀ k : Bool → St → T α, (br st b k).sel η = (k (b.den η) s).sel η := by
  unfold br
  split
  · rename_i x; exact ⟨st, rfl, f, fun k => rfl⟩
  · rename_i b
    simp only [B.den]
    cases hf : find b st.facts with
    | some x => rw [find_true f hf]; exact ⟨st, rfl, f, fun k => rfl⟩
    | none =>
      cases e : b.den η with
      | true =>
        refine ⟨{ st with facts := (b, true) :: st.facts }, rfl, ?_, fun k => by simp [T.sel, e]⟩
        intro p hp; simp at hp; rcases hp with rfl | hp
        · exact e
        · exact f p hp
      | false =>
        refine ⟨{ st with facts := (b, false) :: st.facts }, rfl, ?_, fun k => by simp [T.sel, e]⟩
        intro p hp; simp at hp; rcases hp with rfl | hp
        · exact e
        · exact f p hp
  · cases hf : find b st.facts with
    | some x => rw [find_true f hf]; exact ⟨st, rfl, f, fun k => rfl⟩
    | none =>
      cases e : b.den η with
      | true =>
        refine ⟨{ st with facts := (b, true) :: st.facts }, rfl, ?_, fun k => by simp [T.sel, e]⟩
        intro p hp; simp at hp; rcases hp with rfl | hp
        · exact e
        · exact f p hp
      | false =>
        refine ⟨{ st with facts := (b, false) :: st.facts }, rfl, ?_, fun k => by simp [T.sel, e]⟩
        intro p hp; simp at hp; rcases hp with rfl | hp
        · exact e
        · exact f p hp
theorem checkH_ok {a : Regs} {o : Oper} {fs : List (B × Bool)} {v : V} : ∀ (hs : List Hp) (n : Nat), checkH P a o fs v hs n = true → ∀ j hb, j < n → hs[j]? = some hb → ∃ s1, (opF P a ⟨hb, fs⟩ o).sel η = some (.val v s1)
  | _, 0, _, j, _, hj, _ => by omega
  | [], n + 1, _, j, hb, _, h => by simp at h
  | h :: hs, n + 1, hc, j, hb, hj, hh => by
    unfold checkH at hc
    rw [Bool.and_eq_true] at hc
    obtain ⟨c1, c2⟩ := hc
    cases j with
    | zero =>
      simp at hh; subst hh
      split at c1
      · rename_i v' s' he
        rw [V.beq_eq 8 _ _ c1, he]
        exact ⟨s', rfl⟩
      · simp at c1
    | succ j => exact checkH_ok hs n c2 j hb (by omega) (by simpa using hh)
theorem Hp.le_push {b h : Hp} (e : Hp.le b h) (o : O) : Hp.le b (h.push o) := by
  intro k o' h1 h2
  have := e k o' h1 h2
  rw [Hp.get_push, if_pos (Hp.get_lt this)]
  exact this
theorem Hp.le_refl (h : Hp) : Hp.le h h := fun _ _ e _ => e
theorem runD_told (hP : Plain P) {call : CallF} (hcall : CallOk η P call) (ops : Array Oper) : ∀ (items : List (Nat × Nat)) (a : Regs) (st : St) (base : List Hp) (ox : Ox), base ≠ [] → Hp.le (baseOf base st.heap) st.heap → (∃ φ A W, AR η φ a A ∧ SR η φ st W) →
    (runD P call ops (masks ops) items a st base).sel η = some ox → Told η P ops items a st.heap base ox := by
  intro items
  induction items with
  | nil =>
    intro a st base ox _ _ hm h
    obtain ⟨φ, A, W, ha, hs⟩ := hm
    simp only [runD, T.sel, Option.some.injEq] at h; subst h
    exact ⟨[], by simp, by simp, rfl, ⟨rfl, rfl⟩, hs.facts⟩
  | cons it rest ih =>
    obtain ⟨i, b⟩ := it
    intro a st base ox hb hle hm h
    unfold runD at h
    split at h
    · simp [T.sel] at h
    rename_i o ho
    have hgo : ∀ st : St, Hp.le (baseOf base st.heap) st.heap → (∃ φ A W, AR η φ a A ∧ SR η φ st W) → WantV η ops a o →
        (goD P call (masks ops) i b rest o (runD P call ops (masks ops) rest) a st base).sel η = some ox → Told η P ops ((i, b) :: rest) a st.heap base ox := by
      intro st hle hm hw h
      obtain ⟨φ, A, W, ha, hs⟩ := hm
      have hmod : Mod η a st.heap := ⟨φ, A, W, ha, hs.bare⟩
      have hf : Fok η st := hs.facts
      unfold goD at h
      cases hk : kindOf o with
      | new =>
        rw [hk] at h
        simp only at h
        cases hn : newE P a o with
        | none => rw [hn] at h; simp [T.sel] at h
        | some n =>
          rw [hn] at h
          simp only at h
          obtain ⟨v', W', φ', _, g1, g2, g3⟩ := (newE_ok (W := W) ha hn).ok hs
          exact Told.cons ⟨i, o, .new n, n.f st.heap.size, a, st.heap, base, st.heap.push n.o⟩ rfl ⟨ho, hw, by simp [isEff, hk], hn, rfl, rfl⟩ hmod rfl rfl rfl (ih _ (st.new n.o) _ _ hb (by cases base with | nil => exact absurd rfl hb | cons b0 bs => exact Hp.le_push hle n.o) ⟨φ', _, W', put_ar (ha.mono g3.mono) _ g1, g2⟩ h)
      | quiet =>
        rw [hk] at h
        simp only at h
        rw [T.sel_bind] at h
        cases hr : (opF P a (if memless o then st else ⟨baseOf base st.heap, st.facts⟩) o).sel η with
        | none => rw [hr] at h; simp at h
        | some r =>
          rw [hr] at h
          simp only [Option.bind_some] at h
          have hf0 : Fok η (if memless o then st else ⟨baseOf base st.heap, st.facts⟩) := by split <;> exact hf
          obtain ⟨v, s, s', rfl, hv, e1, _, f1, _⟩ := two_opF hf0 hf0 a o (.inr (fun k o h _ => h)) r hr
          simp only at h
          split at h
          case isFalse => simp [T.sel] at h
          rename_i hc
          have hok : SpOk η P ops b ⟨i, o, .quiet, v, a, st.heap, base, st.heap⟩ := by
            refine ⟨ho, hw, rfl, by simp [isEff, hk], ?_⟩
            cases hm : memless o with
            | true =>
              rw [hm] at hr
              exact .inl ⟨rfl, st.facts, s, hf, hr⟩
            | false =>
              rw [hm] at hr
              simp only [hm, Bool.false_or] at hc
              refine .inr ⟨rfl, fun j hb' hj hbj => ?_⟩
              cases base with
              | nil => exact absurd rfl hb
              | cons b0 bs =>
                cases j with
                | zero =>
                  simp at hbj; subst hbj
                  exact ⟨st.facts, s, hf, hr⟩
                | succ j =>
                  obtain ⟨s1, hs1⟩ := checkH_ok (η := η) bs b hc j hb' (by omega) (by simpa using hbj)
                  exact ⟨s.facts, s1, f1, hs1⟩
          -- the value stands for something
          have hval : ∃ v', VR η φ v v' := by
            cases hm : memless o with
            | true =>
              rw [hm] at hr
              obtain ⟨v2, st2, v', he, _, h2, _⟩ := opF_ok ha hs hr
              injection he with he1 he2; subst he1
              exact ⟨v', h2⟩
            | false =>
              rw [hm] at hr
              obtain ⟨v2, s2, s2', he, hr2, _⟩ := two_opF (st := ⟨baseOf base st.heap, st.facts⟩) (st' := st) hf hf a o (.inr hle) _ hr
              injection he with he1 he2; subst he1
              obtain ⟨v3, st3, v', he, _, h2, _⟩ := opF_ok ha hs hr2
              injection he with he1 he2; subst he1
              exact ⟨v', h2⟩
          obtain ⟨v', hv'⟩ := hval
          exact Told.cons _ rfl hok hmod rfl rfl rfl (ih _ ⟨st.heap, s.facts⟩ _ _ hb hle ⟨φ, _, W, put_ar ha _ hv', hs.with rfl f1⟩ h)
      | other =>
        rw [hk] at h
        simp only at h
        rw [T.sel_bind] at h
        cases hr : (oneE P call a st o).sel η with
        | none => rw [hr] at h; simp at h
        | some r =>
          rw [hr] at h
          simp only [Option.bind_some] at h
          have he := effAt_of hP hcall hf hr
          have hone := oneE_ok hP hcall ha hs hr
          cases r with
          | val v st1 =>
            obtain ⟨φ', v', W', g1, g2, g3⟩ := hone.some
            simp only at h
            split at h
            case isFalse => simp [T.sel] at h
            rename_i hle2
            rw [Nat.ble_eq] at hle2
            exact Told.cons ⟨i, o, .eff, v, a, st.heap, base, st1.heap⟩ rfl ⟨ho, hw, by simp [isEff, hk], he, hle2⟩ hmod rfl rfl rfl (ih _ st1 (st1.heap :: base) _ (by simp) (Hp.le_refl _) ⟨φ', _, W', put_ar (ha.mono g3.mono) _ g1, g2⟩ h)
          | pan v st1 =>
            simp only at h
            split at h
            case isFalse => simp [T.sel] at h
            rename_i hall
            simp only [T.sel, Option.some.injEq] at h; subst h
            obtain ⟨φ', W', g2⟩ := hone.somePan
            exact ⟨[], by simp, by simp, st.heap, (i, b), rest, o, rfl, ⟨rfl, rfl⟩, ho, by simp [isEff, hk], hw, he, g2.facts, hmod, fun p hp => List.all_eq_true.1 hall p hp⟩
          | put f args st1 => simp [T.sel] at h
    have hmod := hm
    obtain ⟨φ, A, W, ha, hs⟩ := hm
    split at h
    · rename_i hg; exact hgo st hle hmod (.inl hg) h
    · rename_i j want hg
      split at h
      · simp [T.sel] at h
      · rename_i d hd
        split at h
        · rename_i bb hbb
          obtain ⟨s, e1, f1, e3⟩ := br_one (α := Ox) st bb hs.facts
          rw [e3] at h
          have hs1 : SR η φ s W := hs.with e1 f1
          rw [← e1] at hle ⊢
          split at h
          · rename_i hw; exact hgo s hle ⟨φ, A, W, ha, hs1⟩ (.inr ⟨j, want, d, bb, hg, hd, hbb, hw⟩) h
          · rename_i hw
            exact Told.cons ⟨i, o, .skip, undefV, a, s.heap, base, s.heap⟩ rfl ⟨ho, ⟨j, want, d, hg, hd, .inl ⟨bb, hbb, hw⟩⟩, rfl, rfl⟩ ⟨φ, A, W, ha, hs1.bare⟩ rfl rfl rfl (ih _ _ _ _ hb hle ⟨φ, _, W, put_ar ha _ undef_vr, hs1⟩ h)
        · rename_i hbb
          exact Told.cons ⟨i, o, .skip, undefV, a, st.heap, base, st.heap⟩ rfl ⟨ho, ⟨j, want, d, hg, hd, .inr hbb⟩, rfl, rfl⟩ ⟨φ, A, W, ha, hs.bare⟩ rfl rfl rfl (ih _ _ _ _ hb hle ⟨φ, _, W, put_ar ha _ undef_vr, hs⟩ h)
        · simp [T.sel] at h
end
end
end Go.Proofs.YtbobnbndbgpanaaGreat.Sx
