/- The memory that the executor keeps, what it stands for in a world; the tree of ways. -/
import Derived.Test.YtbobnbndbgpanaaGreatSzHeap
namespace Go.Proofs.YtbobnbndbgpanaaGreat.Sx
open Go
set_option linter.unusedVariables false
set_option linter.unusedSimpArgs false
noncomputable section

def O.isDead : O → Bool
  | .dead => true
  | _ => false
def O.peers : O → List Nat
  | .cells _ _ p => p
  | _ => []

structure St where
  heap : Hp
  facts : List (B × Bool)

inductive MR (η : Env) (φ : Place) : List (V × V × Nat) → List MapEntry → Prop where
  | nil : MR η φ [] []
  | cons (k v : V) (k' v' : Value) (n : Nat) (l : List (V × V × Nat)) (l' : List MapEntry) (hk : VR η φ k k') (hv : VR η φ v v') (t : MR η φ l l') : MR η φ ((k, v, n) :: l) (⟨k', v', n⟩ :: l')
theorem MR.mono {η : Env} {φ φ' : Place} (m : Mono φ φ') : ∀ {l : List (V × V × Nat)} {l' : List MapEntry}, MR η φ l l' → MR η φ' l l'
  | _, _, .nil => .nil
  | _, _, .cons k v k' v' n l l' hk hv t => .cons k v k' v' n l l' (hk.mono m) (hv.mono m) (MR.mono m t)

/-- Entries, in whatever order. -/
inductive ER (η : Env) (φ : Place) : List (V × V) → List MapEntry → Prop where
  | nil : ER η φ [] []
  | cons (k v : V) (e : MapEntry) (l : List (V × V)) (l' : List MapEntry) (hk : VR η φ k e.key) (hv : VR η φ v e.val) (t : ER η φ l l') : ER η φ ((k, v) :: l) (e :: l')
theorem ER.mono {η : Env} {φ φ' : Place} (m : Mono φ φ') : ∀ {l : List (V × V)} {l' : List MapEntry}, ER η φ l l' → ER η φ' l l'
  | _, _, .nil => .nil
  | _, _, .cons k v e l l' hk hv t => .cons k v e l l' (hk.mono m) (hv.mono m) (ER.mono m t)
/-- The map that an iterator goes over. -/
def IR (φ : Place) : Option Nat → Option Nat → Prop
  | none, none => True
  | some k, some b => ∃ s, φ k = some (b, s)
  | _, _ => False
theorem IR.mono {φ φ' : Place} (m : Mono φ φ') : ∀ {a b : Option Nat}, IR φ a b → IR φ' a b
  | none, none, _ => trivial
  | some _, some _, ⟨s, h⟩ => ⟨s, m _ _ h⟩
def OR (η : Env) (φ : Place) (o : O) (s : Nat × Nat) (ob : Option Obj) : Prop :=
  match o with
  | .cells cs w _ => ∃ pre mid post t, ob = some (.cells (pre ++ mid ++ post).toArray t (0, 0)) ∧ pre.length = s.1 ∧ VRs η φ cs.toList mid ∧ s.2 * w ≤ post.length
  | .map es clock => ∃ es', ob = some (.map es' clock) ∧ MR η φ es es'.toList
  | .dead => True
  | .iter m since seen last => s.1 = 0 ∧ ∃ m', ob = some (.mapIter m' since seen.toArray last) ∧ IR φ m m'
  | .pmap es => ∃ es' clock l, ob = some (.map es' clock) ∧ l.Perm es'.toList ∧ ER η φ es l ∧ (es'.toList.Pairwise fun x y => x.key ≠ y.key) ∧ (es'.toList.map fun e => e.born).Nodup ∧ ∀ e ∈ es'.toList, e.born < clock
theorem OR.mono {η : Env} {φ φ' : Place} (m : Mono φ φ') {o : O} {s : Nat × Nat} {ob : Option Obj} (h : OR η φ o s ob) : OR η φ' o s ob := by
  cases o with
  | cells cs e p => obtain ⟨pre, mid, post, t, h1, h2, h3, h4⟩ := h; exact ⟨pre, mid, post, t, h1, h2, h3.mono m, h4⟩
  | map es c => obtain ⟨es', h1, h2⟩ := h; exact ⟨es', h1, h2.mono m⟩
  | dead => trivial
  | iter a since seen last => obtain ⟨h0, m', h1, h2⟩ := h; exact ⟨h0, m', h1, h2.mono m⟩
  | pmap es => obtain ⟨es', c, l, h1, h2, h3, h4⟩ := h; exact ⟨es', c, l, h1, h2, h3.mono m, h4⟩

structure SR (η : Env) (φ : Place) (st : St) (W : World) : Prop where
  obj : ∀ k o, st.heap.get k = some o → o.isDead = false → ∃ b s, φ k = some (b, s) ∧ OR η φ o s (W.heap[b]?)
  dom : ∀ k b s, φ k = some (b, s) → k < st.heap.size ∧ b < W.heap.size
  sep : ∀ j k b s s' oj ok, φ j = some (b, s) → φ k = some (b, s') → st.heap.get j = some oj → st.heap.get k = some ok → oj.isDead = false → ok.isDead = false → j = k ∨ (k ∈ oj.peers ∧ j ∈ ok.peers)
  facts : ∀ p ∈ st.facts, p.1.den η = p.2

structure Ext (φ φ' : Place) (W W' : World) : Prop where
  mono : Mono φ φ'
  fresh : ∀ k b s, φ' k = some (b, s) → φ k = none → W.heap.size ≤ b ∨ ∃ j s', φ j = some (b, s')
  os : W'.os = W.os
  tape : W'.tape = W.tape
  output : W'.output = W.output
  size : W.heap.size ≤ W'.heap.size
  block : ∀ b, b < W.heap.size → (∀ k s, φ k ≠ some (b, s)) → W'.heap[b]? = W.heap[b]?

theorem Ext.refl (φ : Place) (W : World) : Ext φ φ W W :=
  ⟨Mono.refl φ, fun k b s h h' => by simp [h] at h', rfl, rfl, rfl, Nat.le_refl _, fun _ _ _ => rfl⟩
theorem Ext.trans {φ φ' φ'' : Place} {W W' W'' : World} (h : Ext φ φ' W W') (k : Ext φ' φ'' W' W'') : Ext φ φ'' W W'' where
  mono := h.mono.trans k.mono
  fresh := by
    intro i b s hi hn
    cases hm : φ' i with
    | some p =>
      have e := k.mono i p hm
      rw [hi] at e; injection e with e; subst e
      exact h.fresh i b s hm hn
    | none =>
      rcases k.fresh i b s hi hm with hb | ⟨j, s', hj⟩
      · exact .inl (Nat.le_trans h.size hb)
      · cases hj0 : φ j with
        | some p =>
          have e := h.mono j p hj0
          rw [hj] at e; injection e with e; subst e
          exact .inr ⟨j, s', hj0⟩
        | none => exact h.fresh j b s' hj hj0
  os := k.os.trans h.os
  tape := k.tape.trans h.tape
  output := k.output.trans h.output
  size := Nat.le_trans h.size k.size
  block := by
    intro b hb hn
    have h1 := h.block b hb hn
    have h2 : ∀ i s, φ' i ≠ some (b, s) := by
      intro i s hi
      cases hm : φ i with
      | some p =>
        have e := h.mono i p hm
        rw [hi] at e; injection e with e; subst e
        exact hn i s hm
      | none =>
        rcases h.fresh i b s hi hm with hb' | ⟨j, s', hj⟩
        · omega
        · exact hn j s' hj
    exact (k.block b (Nat.lt_of_lt_of_le hb h.size) h2).trans h1

def Place.put (φ : Place) (n b : Nat) (s : Nat × Nat) : Place := fun k => if k = n then some (b, s) else φ k

section
variable {η : Env} {φ : Place} {st : St} {W : World}

theorem SR.isFresh (h : SR η φ st W) : φ st.heap.size = none := by
  cases hm : φ st.heap.size with
  | none => rfl
  | some p => have := (h.dom _ p.1 p.2 hm).1; omega
theorem SR.mono_put (h : SR η φ st W) (b : Nat) (s : Nat × Nat) : Mono φ (φ.put st.heap.size b s) := by
  intro k p hk
  unfold Place.put
  split
  · rename_i e; subst e; rw [h.isFresh] at hk; simp at hk
  · exact hk

def St.new (st : St) (o : O) : St := { st with heap := st.heap.push o }

theorem Ext.allocAt (h : SR η φ st W) (ob : Obj) (sp : Nat × Nat) : Ext φ (φ.put st.heap.size W.heap.size sp) W (W.alloc ob) where
  mono := h.mono_put _ _
  fresh := by
    intro k b s hk hn
    unfold Place.put at hk
    split at hk
    · injection hk with hk; injection hk with h1 h2; subst h1; exact .inl (Nat.le_refl _)
    · rw [hn] at hk; simp at hk
  os := rfl
  tape := rfl
  output := rfl
  size := by simp
  block := by
    intro b hb _
    rw [heap_alloc_old _ _ hb]

theorem SR.newAt (h : SR η φ st W) (o : O) (ob : Obj) (sp : Nat × Nat) (ho : OR η (φ.put st.heap.size W.heap.size sp) o sp (some ob)) :
    SR η (φ.put st.heap.size W.heap.size sp) (st.new o) (W.alloc ob) where
  obj := by
    intro k o' hk hd
    simp only [St.new, Hp.get_push] at hk
    split at hk
    · rename_i hlt
      obtain ⟨b, s, h1, h2⟩ := h.obj k o' hk hd
      have hb := (h.dom k b s h1).2
      refine ⟨b, s, h.mono_put _ _ k _ h1, ?_⟩
      have e : (W.alloc ob).heap[b]? = W.heap[b]? := by rw [heap_alloc_old _ _ hb]
      rw [e]
      exact h2.mono (h.mono_put _ _)
    · rename_i hge
      split at hk
      case isFalse => simp at hk
      rename_i hk0
      have hk1 := hk0.1
      subst hk1
      simp at hk; subst hk
      exact ⟨W.heap.size, sp, by simp [Place.put], by rw [heap_alloc_new]; exact ho⟩
  dom := by
    intro k b s hk
    unfold Place.put at hk
    simp only [St.new, Hp.size_push, World.size_alloc]
    split at hk
    · injection hk with hk; injection hk with h1 h2; omega
    · have := h.dom k b s hk; omega
  sep := by
    intro j k b s s' oj ok hj hk hoj hok hdj hdk
    unfold Place.put at hj hk
    simp only [St.new, Hp.get_push] at hoj hok
    split at hj <;> split at hk
    · rename_i e1 e2; exact .inl (e1.trans e2.symm)
    · injection hj with hj; injection hj with h1 h2
      have := (h.dom k b s' hk).2; omega
    · injection hk with hk; injection hk with h1 h2
      have := (h.dom j b s hj).2; omega
    · have l1 := (h.dom j b s hj).1
      have l2 := (h.dom k b s' hk).1
      rw [if_pos l1] at hoj; rw [if_pos l2] at hok
      exact h.sep j k b s s' oj ok hj hk hoj hok hdj hdk
  facts := h.facts

theorem Ext.alloc (h : SR η φ st W) (ob : Obj) : Ext φ (φ.put st.heap.size W.heap.size (0, 0)) W (W.alloc ob) := Ext.allocAt h ob (0, 0)
theorem SR.new (h : SR η φ st W) (o : O) (ob : Obj) (ho : OR η (φ.put st.heap.size W.heap.size (0, 0)) o (0, 0) (some ob)) :
    SR η (φ.put st.heap.size W.heap.size (0, 0)) (st.new o) (W.alloc ob) := h.newAt o ob (0, 0) ho

/-! ### Reading -/
def St.cells (st : St) (k : Nat) : Option Arr :=
  match st.heap.get k with
  | some (.cells cs _ _) => some cs
  | _ => none

theorem SR.cells (h : SR η φ st W) {k : Nat} {cs : Arr} (hc : st.cells k = some cs) :
    ∃ b s pre mid post t, φ k = some (b, s) ∧ W.heap[b]? = some (.cells (pre ++ mid ++ post).toArray t (0, 0)) ∧ pre.length = s.1 ∧ VRs η φ cs.toList mid := by
  unfold St.cells at hc
  split at hc
  · rename_i cs' e p hk
    simp at hc; subst hc
    obtain ⟨b, s, h1, pre, mid, post, t, h2, h3, h4, _⟩ := h.obj k _ hk rfl
    exact ⟨b, s, pre, mid, post, t, h1, h2, h3, h4⟩
  · simp at hc

theorem SR.cell (h : SR η φ st W) {k i b : Nat} {s : Nat × Nat} {cs : Arr} {v : V} (hc : st.cells k = some cs) (hv : cs.get i = some v) (hφ : φ k = some (b, s)) :
    ∃ v', W.cell? ⟨b, s.1 + i, none⟩ = some v' ∧ VR η φ v v' := by
  obtain ⟨b', s', pre, mid, post, t, h1, h2, h3, h4⟩ := h.cells hc
  rw [hφ] at h1; injection h1 with h1; injection h1 with hb hs; subst hb; subst hs
  rw [Arr.get_eq] at hv
  obtain ⟨v', hv', hr⟩ := h4.get i v hv
  refine ⟨v', ?_, hr⟩
  have hi : i < mid.length := (List.getElem?_eq_some_iff.1 hv').1
  simp only [World.cell?, h2, Option.isSome_none, Bool.false_eq_true, if_false, List.getElem?_toArray]
  rw [List.getElem?_append_left (by simp; omega), List.getElem?_append_right (by omega)]
  rw [show s.1 + i - pre.length = i by omega]
  exact hv'

/-! ### Writing -/
def kill (l : List Nat) (h : Hp) : Hp := l.foldl (fun h k => h.set k .dead) h
theorem kill_length (l : List Nat) : ∀ h : Hp, (kill l h).size = h.size := by
  induction l with
  | nil => intro h; rfl
  | cons a l ih => intro h; simp only [kill, List.foldl_cons]; rw [show List.foldl (fun h k => Hp.set h k O.dead) (h.set a O.dead) l = kill l (h.set a .dead) from rfl, ih]; exact Hp.size_set _ _ _
theorem kill_get (l : List Nat) : ∀ (h : Hp) (k : Nat) (o : O), (kill l h).get k = some o → o.isDead = false → k ∉ l ∧ h.get k = some o := by
  induction l with
  | nil => intro h k o e _; exact ⟨by simp, e⟩
  | cons a l ih =>
    intro h k o e hd
    obtain ⟨h1, h2⟩ := ih (h.set a .dead) k o e hd
    rw [Hp.get_set] at h2
    split at h2
    · rename_i hak; split at h2
      · simp at h2; subst h2; simp [O.isDead] at hd
      · simp at h2
    · rename_i hak
      exact ⟨by simp; exact ⟨fun e => hak e.symm, h1⟩, h2⟩

/-- Lays cells from place i on; others that may share the block are forgotten. -/
def St.store (st : St) (k i : Nat) (vs : List V) : Option St :=
  match st.heap.get k with
  | some (.cells cs e ps) =>
    if vs.all V.one then match cs.lay i vs with
      | some cs' => some { st with heap := (kill (ps.filter (· != k)) st.heap).set k (.cells cs' e []) }
      | none => none
    else none
  | _ => none

theorem SR.store (h : SR η φ st W) {k i b : Nat} {s : Nat × Nat} {vs : List V} {vs' : List Value} {st' : St} (hs : st.store k i vs = some st') (hv : VRs η φ vs vs') (hφ : φ k = some (b, s)) (P : Program) :
    ∃ W', (storeCells ⟨b, s.1 + i, none⟩ vs').run P W = .ok () W' ∧ SR η φ st' W' ∧ Ext φ φ W W' := by
  unfold St.store at hs
  split at hs
  case h_2 => simp at hs
  rename_i cs e ps hk
  split at hs
  case isFalse => simp at hs
  rename_i hone
  split at hs
  case h_2 => simp at hs
  rename_i cs' hlay
  obtain ⟨hfit, hcs'⟩ := Arr.lay_ok hlay
  simp at hs; subst hs
  have hkl : k < st.heap.size := Hp.get_lt hk
  obtain ⟨b', s', h1, pre, mid, post, t, h2, h3, h4, h5⟩ := h.obj k _ hk rfl
  rw [hφ] at h1; injection h1 with h1; injection h1 with hb hs'; subst hb; subst hs'
  have hlen := h4.length
  have hvl := hv.length
  have h1c : ∀ v ∈ vs', v.oneCell' = true := by
    intro v hm
    obtain ⟨j, hj, rfl⟩ := List.getElem_of_mem hm
    have hj' : j < vs.length := by omega
    obtain ⟨v', e1, e2⟩ := hv.get j vs[j] (by simp [hj'])
    rw [List.getElem?_eq_getElem hj] at e1; injection e1 with e1; subst e1
    exact e2.one (List.all_eq_true.1 hone _ (List.getElem_mem hj'))
  have hrun := run_storeCells_at P b (s.1 + i) t vs' 0 (pre ++ mid ++ post).toArray W h2 (by simp; omega) h1c
  refine ⟨_, hrun, ?_, ?_⟩
  · have hnew : (W.setRow b ((pre ++ mid ++ post).toArray.toList.take (s.1 + i + 0) ++ vs' ++ (pre ++ mid ++ post).toArray.toList.drop (s.1 + i + 0 + vs'.length)).toArray).heap[b]? =
        some (.cells (pre ++ (mid.take i ++ vs' ++ mid.drop (i + vs'.length)) ++ post).toArray t (0, 0)) := by
      rw [setRow_heap W b _ _ t (0, 0) h2]
      congr 3
      simp only [Nat.add_zero]
      have e1 : (pre ++ mid ++ post).take (s.1 + i) = pre ++ mid.take i := by
        rw [List.append_assoc, List.take_append, List.take_of_length_le (by omega), List.take_append]
        rw [show s.1 + i - pre.length = i by omega, show i - mid.length = 0 by omega]; simp
      have e2 : (pre ++ mid ++ post).drop (s.1 + i + vs'.length) = mid.drop (i + vs'.length) ++ post := by
        rw [List.append_assoc, List.drop_append, List.drop_of_length_le (by omega), List.drop_append]
        rw [show s.1 + i + vs'.length - pre.length = i + vs'.length by omega, show i + vs'.length - mid.length = 0 by omega]; simp
      rw [e1, e2]; simp
    constructor
    · intro j o hj hd
      rw [Hp.get_set] at hj
      split at hj
      · rename_i hjk; subst hjk
        split at hj
        · simp at hj; subst hj
          refine ⟨b, s, hφ, pre, _, post, t, hnew, h3, ?_⟩
          have hq := (((h4.take i).append hv).append (h4.drop (i + vs'.length)))
          rw [hcs', hvl]
          exact ⟨by simpa using hq, h5⟩
        · simp at hj
      · rename_i hjk
        obtain ⟨hn, hj'⟩ := kill_get _ _ _ _ hj hd
        obtain ⟨bj, sj, hφj, hor⟩ := h.obj j o hj' hd
        refine ⟨bj, sj, hφj, ?_⟩
        have hne : bj ≠ b := by
          intro e; subst e
          rcases h.sep j k bj sj s o _ hφj hφ hj' hk hd rfl with e | ⟨_, e⟩
          · exact hjk e.symm
          · exact hn (by simp only [O.peers] at e; simp [e]; exact fun e' => hjk e'.symm)
        rw [setRow_other _ _ _ _ hne]
        exact hor
    · intro j bj sj hj
      have := h.dom j bj sj hj
      simp only [Hp.size_set, kill_length, setRow_size]
      exact this
    · intro j l bj sj sl oj ol hj hl hoj hol hdj hdl
      rw [Hp.get_set] at hoj hol
      by_cases e1 : k = j
      · by_cases e2 : k = l
        · exact .inl (e1.symm.trans e2)
        · rw [if_neg e2] at hol
          obtain ⟨hn, hol'⟩ := kill_get _ _ _ _ hol hdl
          subst e1
          rcases h.sep k l bj sj sl _ ol hj hl hk hol' rfl hdl with e | ⟨e, _⟩
          · exact .inl e
          · exact absurd (by simp only [O.peers] at e; simp [e]; exact fun e' => e2 e'.symm) hn
      · rw [if_neg e1] at hoj
        obtain ⟨hn, hoj'⟩ := kill_get _ _ _ _ hoj hdj
        by_cases e2 : k = l
        · subst e2
          rcases h.sep j k bj sj sl oj _ hj hl hoj' hk hdj rfl with e | ⟨_, e⟩
          · exact .inl e
          · exact absurd (by simp only [O.peers] at e; simp [e]; exact fun e' => e1 e'.symm) hn
        · rw [if_neg e2] at hol
          obtain ⟨_, hol'⟩ := kill_get _ _ _ _ hol hdl
          exact h.sep j l bj sj sl oj ol hj hl hoj' hol' hdj hdl
    · exact h.facts
  · refine ⟨Mono.refl φ, fun k b s h h' => by simp [h] at h', rfl, rfl, rfl, by simp, ?_⟩
    intro b' _ hn
    exact setRow_other _ _ _ _ (fun e => hn k s (by rw [e]; exact hφ))

end

/-! ### The tree of ways -/
inductive T (α : Type) where
  | ret (a : α)
  | node (b : B) (t e : T α)
  | fail (why : Nat)
def T.bind {α β : Type} : T α → (α → T β) → T β
  | .ret a, f => f a
  | .node b t e, f => .node b (t.bind f) (e.bind f)
  | .fail n, _ => .fail n
def T.sel {α : Type} (η : Env) : T α → Option α
  | .ret a => some a
  | .node b t e => if b.den η then t.sel η else e.sel η
  | .fail _ => none
theorem T.sel_bind {α β : Type} (η : Env) (t : T α) (f : α → T β) : (t.bind f).sel η = (t.sel η).bind fun a => (f a).sel η := by
  induction t with
  | ret a => rfl
  | node b t e h1 h2 => simp only [T.bind, T.sel]; split <;> assumption
  | fail n => rfl
def T.map {α β : Type} (f : α → β) (t : T α) : T β := t.bind fun a => .ret (f a)
theorem T.sel_map {α β : Type} (η : Env) (f : α → β) (t : T α) : (t.map f).sel η = (t.sel η).map f := by
  unfold T.map; rw [T.sel_bind]; cases t.sel η <;> rfl
def T.opt {α : Type} (n : Nat) : Option α → T α
  | some a => .ret a
  | none => .fail n
theorem T.sel_opt {α : Type} (η : Env) (n : Nat) (o : Option α) : (T.opt n o).sel η = o := by cases o <;> rfl

def lowOf (op : BinOp) (t : Bool) (n : Int) : Option Int :=
  match op, t with
  | .lss, false => some n
  | .leq, false => some (n + 1)
  | .gtr, true => some (n + 1)
  | .geq, true => some n
  | .eql, true => some n
  | .neq, false => some n
  | _, _ => none
def highOf (op : BinOp) (t : Bool) (n : Int) : Option Int :=
  match op, t with
  | .lss, true => some (n - 1)
  | .leq, true => some n
  | .gtr, false => some n
  | .geq, false => some (n - 1)
  | .eql, true => some n
  | .neq, false => some n
  | _, _ => none
theorem lowOf_ok {op : BinOp} {t : Bool} {n x l : Int} (h : cmpI op x n = t) (hl : lowOf op t n = some l) : l ≤ x := by
  unfold lowOf at hl
  split at hl <;> simp only [Option.some.injEq, reduceCtorEq] at hl <;> subst hl <;> simp [cmpI] at h <;> omega
theorem highOf_ok {op : BinOp} {t : Bool} {n x l : Int} (h : cmpI op x n = t) (hl : highOf op t n = some l) : x ≤ l := by
  unfold highOf at hl
  split at hl <;> simp only [Option.some.injEq, reduceCtorEq] at hl <;> subst hl <;> simp [cmpI] at h <;> omega
def askLow (l : Int) (op : BinOp) (m : Int) : Option Bool :=
  match op with
  | .lss => if m ≤ l then some false else none
  | .leq => if m < l then some false else none
  | .gtr => if m < l then some true else none
  | .geq => if m ≤ l then some true else none
  | .eql => if m < l then some false else none
  | .neq => if m < l then some true else none
  | _ => none
def askHigh (h : Int) (op : BinOp) (m : Int) : Option Bool :=
  match op with
  | .lss => if h < m then some true else none
  | .leq => if h ≤ m then some true else none
  | .gtr => if h ≤ m then some false else none
  | .geq => if h < m then some false else none
  | .eql => if h < m then some false else none
  | .neq => if h < m then some true else none
  | _ => none
theorem askLow_ok {l x m : Int} {op : BinOp} {r : Bool} (h : l ≤ x) (ha : askLow l op m = some r) : cmpI op x m = r := by
  unfold askLow at ha
  split at ha <;> (try split at ha) <;> simp only [Option.some.injEq, reduceCtorEq] at ha <;> subst ha <;> simp [cmpI] <;> omega
theorem askHigh_ok {l x m : Int} {op : BinOp} {r : Bool} (h : x ≤ l) (ha : askHigh l op m = some r) : cmpI op x m = r := by
  unfold askHigh at ha
  split at ha <;> (try split at ha) <;> simp only [Option.some.injEq, reduceCtorEq] at ha <;> subst ha <;> simp [cmpI] <;> omega
/-- What one comparison with a number tells of another. -/
def askI (op : BinOp) (t : Bool) (n : Int) (op' : BinOp) (m : Int) : Option Bool :=
  if op = op' ∧ n = m then some t
  else match (match lowOf op t n with | some l => askLow l op' m | none => none) with
    | some r => some r
    | none => match highOf op t n with
      | some h => askHigh h op' m
      | none => none
theorem askI_ok {op op' : BinOp} {t r : Bool} {n m x : Int} (h : cmpI op x n = t) (ha : askI op t n op' m = some r) : cmpI op' x m = r := by
  unfold askI at ha
  split at ha
  · rename_i e; obtain ⟨rfl, rfl⟩ := e; injection ha with ha; subst ha; exact h
  · split at ha
    · rename_i r' hr
      injection ha with ha; subst ha
      split at hr
      · rename_i l hl; exact askLow_ok (lowOf_ok h hl) hr
      · simp at hr
    · split at ha
      · rename_i l hl; exact askHigh_ok (highOf_ok h hl) ha
      · simp at ha
/-- What one fact tells of a condition. -/
def know (c : B) (x : Bool) (b : B) : Option Bool :=
  match c, b with
  | .cmp op e (.lit n), .cmp op' e' (.lit m) => if e.beq e' then askI op x n op' m else none
  | .cmp op a b, .cmp op' a' b' => if op = op' ∧ a.beq a' = true ∧ b.beq b' = true then some x else none
  | .fn i a b c, .fn j a' b' c' => if i = j ∧ a.beq a' = true ∧ b.beq b' = true ∧ c.beq c' = true then some x else none
  | .fn5 i a b c d e, .fn5 j a' b' c' d' e' => if i = j ∧ a.beq a' = true ∧ b.beq b' = true ∧ c.beq c' = true ∧ d.beq d' = true ∧ e.beq e' = true then some x else none
  | .seq a (.lit l), .seq b (.lit l') => if a.beq b = true then (if l = l' then some x else if x then some false else none) else none
  | c, b => if b = c then some x else none
theorem know_ok {η : Env} {c b : B} {x y : Bool} (h : c.den η = x) (hk : know c x b = some y) : b.den η = y := by
  unfold know at hk
  split at hk
  · split at hk
    · rename_i e; rw [← E.beq_eq e]; exact askI_ok h hk
    · simp at hk
  · split at hk
    · rename_i e; obtain ⟨e1, e2, e3⟩ := e; rw [← e1, ← E.beq_eq e2, ← E.beq_eq e3]; injection hk with hk; subst hk; exact h
    · simp at hk
  · split at hk
    · rename_i e; obtain ⟨e0, e1, e2, e3⟩ := e; rw [← e0, ← E.beq_eq e1, ← E.beq_eq e2, ← E.beq_eq e3]; injection hk with hk; subst hk; exact h
    · simp at hk
  · split at hk
    · rename_i e; obtain ⟨e0, e1, e2, e3, e4, e5⟩ := e; rw [← e0, ← E.beq_eq e1, ← E.beq_eq e2, ← E.beq_eq e3, ← E.beq_eq e4, ← E.beq_eq e5]; injection hk with hk; subst hk; exact h
    · simp at hk
  · split at hk
    · rename_i e
      rw [← S.beq_eq e]
      split at hk
      · rename_i e; subst e; injection hk with hk; subst hk; exact h
      · rename_i hne
        split at hk
        · rename_i hx; subst hx
          injection hk with hk; subst hk
          simp only [B.den, S.den, beq_iff_eq] at h
          have q : ∀ l : List UInt8, (⟨l.toArray⟩ : ByteArray).toList = l := fun l => by simp
          rw [q] at h
          simp only [B.den, h, S.den, q]
          simpa using hne
        · simp at hk
    · simp at hk
  · split at hk
    · rename_i e; subst e; injection hk with hk; subst hk; exact h
    · simp at hk
def find (b : B) : List (B × Bool) → Option Bool
  | [] => none
  | (c, x) :: l => match know c x b with
    | some y => some y
    | none => find b l
theorem find_true {η : Env} {b : B} {x : Bool} : ∀ {l : List (B × Bool)}, (∀ p ∈ l, p.1.den η = p.2) → find b l = some x → b.den η = x
  | [], _, h => by simp [find] at h
  | (c, y) :: l, hl, h => by
    unfold find at h
    split at h
    · rename_i z e; injection h with h; subst h; exact know_ok (hl (c, y) (by simp)) e
    · exact find_true (fun p hp => hl p (by simp [hp])) h

/-- A test: decided by what is known, or both ways. -/
def br {α : Type} (st : St) (b : B) (k : Bool → St → T α) : T α :=
  match b with
  | .lit x => k x st
  | .not b => match find b st.facts with
    | some x => k (!x) st
    | none => .node b (k false { st with facts := (b, true) :: st.facts }) (k true { st with facts := (b, false) :: st.facts })
  | b => match find b st.facts with
    | some x => k x st
    | none => .node b (k true { st with facts := (b, true) :: st.facts }) (k false { st with facts := (b, false) :: st.facts })
theorem br_sel {η : Env} {φ : Place} {α : Type} {st : St} {W : World} {b : B} {k : Bool → St → T α} {r : α} (h : SR η φ st W) (hs : (br st b k).sel η = some r) :
    ∃ st', (k (b.den η) st').sel η = some r ∧ SR η φ st' W := by
  unfold br at hs
  split at hs
  · exact ⟨st, hs, h⟩
  · rename_i b
    simp only [B.den]
    split at hs
    · rename_i x hf
      rw [find_true h.facts hf]
      exact ⟨st, hs, h⟩
    · simp only [T.sel] at hs
      split at hs
      · rename_i e
        refine ⟨{ st with facts := (_, true) :: st.facts }, by rw [e]; exact hs, h.obj, h.dom, h.sep, ?_⟩
        intro p hp; simp at hp; rcases hp with rfl | hp
        · exact e
        · exact h.facts p hp
      · rename_i e
        have e' : b.den η = false := by simpa using e
        refine ⟨{ st with facts := (_, false) :: st.facts }, by rw [e']; exact hs, h.obj, h.dom, h.sep, ?_⟩
        intro p hp; simp at hp; rcases hp with rfl | hp
        · exact e'
        · exact h.facts p hp
  · split at hs
    · rename_i x hf
      rw [find_true h.facts hf]
      exact ⟨st, hs, h⟩
    · simp only [T.sel] at hs
      split at hs
      · rename_i e
        refine ⟨{ st with facts := (_, true) :: st.facts }, by rw [e]; exact hs, h.obj, h.dom, h.sep, ?_⟩
        intro p hp; simp at hp; rcases hp with rfl | hp
        · exact e
        · exact h.facts p hp
      · rename_i e
        have e' : b.den η = false := by simpa using e
        refine ⟨{ st with facts := (_, false) :: st.facts }, by rw [e']; exact hs, h.obj, h.dom, h.sep, ?_⟩
        intro p hp; simp at hp; rcases hp with rfl | hp
        · exact e'
        · exact h.facts p hp

end
end Go.Proofs.YtbobnbndbgpanaaGreat.Sx
