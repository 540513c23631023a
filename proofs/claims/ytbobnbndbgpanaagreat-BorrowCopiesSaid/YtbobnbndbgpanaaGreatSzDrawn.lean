/- Regions whose order is open: what one order comes to, every order comes to. -/
import Derived.Test.YtbobnbndbgpanaaGreatSzCut
namespace Go.Proofs.YtbobnbndbgpanaaGreat.Sx
open Go
set_option linter.unusedVariables false
set_option linter.unusedSimpArgs false
noncomputable section

section
variable {η : Env} {P : Program} {ops : Array Oper}

/-! ### Places of the one order -/
def ex (listed : Array Bool) (s : Sp) : Bool := listed.getD s.i false
def regAt : List Sp → Regs → Nat → Regs
  | _, a, 0 => a
  | [], a, _ + 1 => a
  | s :: l, a, k + 1 => regAt l (putV a s.o.dst s.w) k
def hpAt : List Sp → Hp → Nat → Hp
  | _, h, 0 => h
  | [], h, _ + 1 => h
  | s :: l, _, k + 1 => hpAt l s.h' k
def baseAt : List Sp → List Hp → Nat → List Hp
  | _, b, 0 => b
  | [], b, _ + 1 => b
  | s :: l, b, k + 1 => baseAt l (if s.k.eff? then s.h' :: b else b) k
theorem chain_at : ∀ {l : List Sp} {a : Regs} {h : Hp} {b : List Hp} {a' : Regs} {h' : Hp}, Chain l a h b a' h' → ∀ k s, l[k]? = some s → s.a = regAt l a k ∧ s.h = hpAt l h k ∧ s.base = baseAt l b k
  | [], a, h, b, a', h', _, k, s, e => by simp at e
  | x :: l, a, h, b, a', h', c, 0, s, e => by
    simp at e; subst e
    exact ⟨c.1, c.2.1, c.2.2.1⟩
  | x :: l, a, h, b, a', h', c, k + 1, s, e => chain_at c.2.2.2 k s (by simpa using e)
theorem chain_end : ∀ {l : List Sp} {a : Regs} {h : Hp} {b : List Hp} {a' : Regs} {h' : Hp}, Chain l a h b a' h' → a' = regAt l a l.length ∧ h' = hpAt l h l.length
  | [], a, h, b, a', h', c => c
  | x :: l, a, h, b, a', h', c => chain_end (l := l) c.2.2.2
theorem hpAt_succ : ∀ {l : List Sp} {h : Hp} {k : Nat} {s : Sp}, l[k]? = some s → hpAt l h (k + 1) = s.h'
  | [], h, k, s, e => by simp at e
  | x :: l, h, 0, s, e => by simp at e; subst e; cases l <;> rfl
  | x :: l, h, k + 1, s, e => hpAt_succ (l := l) (h := x.h') (k := k) (by simpa using e)
theorem baseAt_succ : ∀ {l : List Sp} {b : List Hp} {k : Nat} {s : Sp}, l[k]? = some s → baseAt l b (k + 1) = if s.k.eff? then s.h' :: baseAt l b k else baseAt l b k
  | [], b, k, s, e => by simp at e
  | x :: l, b, 0, s, e => by simp at e; subst e; cases l <;> rfl
  | x :: l, b, k + 1, s, e => baseAt_succ (l := l) (b := if x.k.eff? then x.h' :: b else b) (k := k) (by simpa using e)
theorem regAt_size : ∀ (l : List Sp) (a : Regs) (k : Nat), (regAt l a k).size = a.size
  | _, a, 0 => by unfold regAt; rfl
  | [], a, _ + 1 => rfl
  | s :: l, a, k + 1 => by
    show (regAt l (putV a s.o.dst s.w) k).size = _
    rw [regAt_size]; unfold putV; split
    · rw [Regs.size_set]
    · rfl
theorem regAt_defs : ∀ (l : List Sp) (a : Regs) (k : Nat), (regAt l a k).defs = a.defs
  | _, a, 0 => by unfold regAt; rfl
  | [], a, _ + 1 => rfl
  | s :: l, a, k + 1 => by
    show (regAt l (putV a s.o.dst s.w) k).defs = _
    rw [regAt_defs]; unfold putV; split
    · rw [Regs.defs_set]
    · rfl
theorem putV_get (a : Regs) (h : a.size ≤ 400) (d : Option Tmp) (w : V) (t : Nat) : (putV a d w).get t = if d = some t ∧ t < a.size then w else a.get t := by
  unfold putV
  cases d with
  | none => simp
  | some d =>
    rw [Regs.get_set _ h]
    by_cases e : t = d
    · subst e; by_cases h : t < a.size <;> simp [h]
    · have : ¬ (some d = some t) := fun q => e (by injection q with q; exact q.symm)
      simp [e, this]

/-! ### Values of temporaries -/
def valL (listed : Array Bool) (sz t : Nat) : List Sp → V → V
  | [], v => v
  | s :: l, v => valL listed sz t l (if ex listed s = true ∧ s.o.dst = some t ∧ t < sz then s.w else v)
def valN (sz t : Nat) : List Sp → Nat → V → V
  | _, 0, v => v
  | [], _ + 1, v => v
  | s :: l, k + 1, v => valN sz t l k (if s.o.dst = some t ∧ t < sz then s.w else v)
theorem regAt_get : ∀ (l : List Sp) (a : Regs) (k t : Nat), a.size ≤ 400 → (regAt l a k).get t = valN a.size t l k (a.get t)
  | l, a, 0, t, _ => by unfold regAt valN; cases l <;> rfl
  | [], a, _ + 1, t, _ => rfl
  | s :: l, a, k + 1, t, h => by
    show (regAt l (putV a s.o.dst s.w) k).get t = valN a.size t l k _
    have hs : (putV a s.o.dst s.w).size = a.size := by unfold putV; split; exact Regs.size_set _ _ _; rfl
    rw [regAt_get l _ k t (by rw [hs]; exact h), hs, putV_get a h]
theorem val_agree {listed : Array Bool} {sz t : Nat} : ∀ (l : List Sp) (k : Nat) (v : V), (∀ (q : Nat) (s : Sp), l[q]? = some s → s.o.dst = some t → (ex listed s = true ↔ q < k)) → valL listed sz t l v = valN sz t l k v
  | [], 0, v, _ => rfl
  | [], k + 1, v, _ => rfl
  | s :: l, 0, v, h => by
    show valL listed sz t l _ = v
    have h0 : ¬ (ex listed s = true ∧ s.o.dst = some t ∧ t < sz) := fun e => by
      have := (h 0 s (by simp) e.2.1).1 e.1; omega
    rw [if_neg h0]
    have := val_agree (sz := sz) l 0 v (fun q s' e1 e2 => by
      have := h (q + 1) s' (by simpa using e1) e2
      constructor
      · intro e; have := this.1 e; omega
      · intro e; omega)
    rw [this]; cases l <;> rfl
  | s :: l, k + 1, v, h => by
    show valL listed sz t l _ = valN sz t l k _
    have h0 : (ex listed s = true ∧ s.o.dst = some t ∧ t < sz) ↔ (s.o.dst = some t ∧ t < sz) :=
      ⟨fun e => e.2, fun e => ⟨(h 0 s (by simp) e.1).2 (by omega), e⟩⟩
    rw [val_agree (sz := sz) l k _ (fun q s' e1 e2 => by
      have := h (q + 1) s' (by simpa using e1) e2
      constructor
      · intro e; have := this.1 e; omega
      · intro e; exact this.2 (by omega))]
    congr 1
    by_cases e : s.o.dst = some t ∧ t < sz
    · rw [if_pos e, if_pos (h0.2 e)]
    · rw [if_neg e, if_neg (fun q => e (h0.1 q))]
theorem val_ge {listed : Array Bool} {sz t : Nat} (h : ¬ t < sz) : ∀ (l : List Sp) (v : V), valL listed sz t l v = v
  | [], v => rfl
  | s :: l, v => by
    show valL listed sz t l _ = v
    rw [if_neg (fun e => h e.2.2), val_ge h l]
theorem valN_ge {sz t : Nat} (h : ¬ t < sz) : ∀ (l : List Sp) (k : Nat) (v : V), valN sz t l k v = v
  | [], 0, v => rfl
  | _ :: _, 0, v => rfl
  | [], k + 1, v => rfl
  | s :: l, k + 1, v => by
    show valN sz t l k _ = v
    rw [if_neg (fun e => h e.2), valN_ge h l]
theorem val_same {listed listed' : Array Bool} {sz t : Nat} : ∀ (l : List Sp) (v : V), (∀ (q : Nat) (s : Sp), l[q]? = some s → (ex listed' s = true ↔ ex listed s = true)) → valL listed' sz t l v = valL listed sz t l v
  | [], v, _ => rfl
  | s :: l, v, h => by
    show valL listed' sz t l _ = valL listed sz t l _
    rw [val_same l _ (fun q s' e => h (q + 1) s' (by simpa using e))]
    have h0 := h 0 s (by simp)
    congr 1
    by_cases e : ex listed s = true ∧ s.o.dst = some t ∧ t < sz
    · rw [if_pos e, if_pos ⟨h0.2 e.1, e.2⟩]
    · rw [if_neg e, if_neg (fun q => e ⟨h0.1 q.1, q.2⟩)]
theorem val_none {listed : Array Bool} {sz t : Nat} : ∀ (l : List Sp) (v : V), (∀ (q : Nat) (s : Sp), l[q]? = some s → s.o.dst = some t → ex listed s = false) → valL listed sz t l v = v
  | [], v, _ => rfl
  | s :: l, v, h => by
    show valL listed sz t l _ = v
    rw [if_neg (fun e => by have := h 0 s (by simp) e.2.1; rw [this] at e; simp at e)]
    exact val_none l v (fun q s' e => h (q + 1) s' (by simpa using e))
theorem val_put {listed listed' : Array Bool} {sz t : Nat} : ∀ (l : List Sp) (p : Nat) (sp : Sp) (v : V), l[p]? = some sp → (∀ (q : Nat) (s : Sp), l[q]? = some s → (ex listed' s = true ↔ ex listed s = true ∨ q = p)) →
    (∀ (q : Nat) (s : Sp), p < q → l[q]? = some s → s.o.dst = some t → sp.o.dst = some t → ex listed s = false) → valL listed' sz t l v = if sp.o.dst = some t ∧ t < sz then sp.w else valL listed sz t l v
  | [], p, sp, v, e, _, _ => by simp at e
  | s :: l, 0, sp, v, e, h1, h2 => by
    simp at e; subst e
    show valL listed' sz t l _ = _
    have h0 : ex listed' s = true := (h1 0 s (by simp)).2 (.inr rfl)
    rw [val_same (listed := listed) l _ (fun q s' e => by
      have := h1 (q + 1) s' (by simpa using e)
      simpa using this)]
    by_cases c : s.o.dst = some t ∧ t < sz
    · rw [if_pos ⟨h0, c⟩, if_pos c]
      exact val_none l _ (fun q s' e1 e2 => h2 (q + 1) s' (by omega) (by simpa using e1) e2 c.1)
    · rw [if_neg c, if_neg (fun q => c q.2)]
      show _ = valL listed sz t l _
      rw [if_neg (fun q => c q.2)]
  | s :: l, p + 1, sp, v, e, h1, h2 => by
    show valL listed' sz t l _ = _
    have h0 := h1 0 s (by simp)
    have ih := val_put (sz := sz) l p sp (if ex listed s = true ∧ s.o.dst = some t ∧ t < sz then s.w else v) (by simpa using e)
      (fun q s' e => by have := h1 (q + 1) s' (by simpa using e); simpa using this) (fun q s' e1 e2 e3 e4 => h2 (q + 1) s' (by omega) (by simpa using e2) e3 e4)
    have : (if ex listed' s = true ∧ s.o.dst = some t ∧ t < sz then s.w else v) = (if ex listed s = true ∧ s.o.dst = some t ∧ t < sz then s.w else v) := by
      have h0' : ex listed' s = true ↔ ex listed s = true := by simpa using h0
      by_cases e : ex listed s = true ∧ s.o.dst = some t ∧ t < sz
      · rw [if_pos e, if_pos ⟨h0'.2 e.1, e.2⟩]
      · rw [if_neg e, if_neg (fun q => e ⟨h0'.1 q.1, q.2⟩)]
    rw [this]; exact ih

/-! ### What holds between -/
structure Memo (η : Env) (l : List Sp) (h0 : Hp) (k : Nat) (listed : Array Bool) (φ : Place) (W : World) : Prop where
  obj : ∀ κ o, (hpAt l h0 k).get κ = some o → o.isDead = false → ∃ b s, φ κ = some (b, s) ∧ OR η φ o s W.heap[b]?
  early : ∀ (p : Nat) (s : Sp) (n : New), k ≤ p → l[p]? = some s → ex listed s = true → s.k = .new n → ∃ b, φ s.h.size = some (b, (0, 0)) ∧ OR η φ n.o (0, 0) W.heap[b]? ∧ ∀ κ s', φ κ = some (b, s') → κ = s.h.size
  dom : ∀ κ b s, φ κ = some (b, s) → b < W.heap.size ∧ (κ < (hpAt l h0 k).size ∨ ∃ (p : Nat) (s' : Sp) (n : New), k ≤ p ∧ l[p]? = some s' ∧ ex listed s' = true ∧ s'.k = .new n ∧ κ = s'.h.size)
  sep : ∀ i j b s s' oi oj, φ i = some (b, s) → φ j = some (b, s') → (hpAt l h0 k).get i = some oi → (hpAt l h0 k).get j = some oj → oi.isDead = false → oj.isDead = false → i = j ∨ (j ∈ oi.peers ∧ i ∈ oj.peers)
def RelK (η : Env) (l : List Sp) (a0 : Regs) (h0 : Hp) (φ0 : Place) (W0 : World) (k : Nat) (listed : Array Bool) (A : Act) (W : World) : Prop :=
  k ≤ l.length ∧ (∀ (p : Nat) (s : Sp), p < k → l[p]? = some s → ex listed s = true) ∧ (∀ (p : Nat) (s : Sp), k ≤ p → l[p]? = some s → ex listed s = true → s.k.eff? = false) ∧
  ∃ φ a, Ext φ0 φ W0 W ∧ AR η φ a A ∧ a.size = a0.size ∧ a.defs = a0.defs ∧ (∀ t, a.get t = valL listed a0.size t l (a0.get t)) ∧ Memo η l h0 k listed φ W

/-- The order's places know one another. -/
structure Ord (η : Env) (P : Program) (ops : Array Oper) (l : List Sp) (a0 : Regs) (h0 : Hp) (b0 : List Hp) : Prop where
  small : a0.size ≤ 400
  ok : ∀ (p : Nat) (s : Sp), l[p]? = some s → ∃ b, SpOk η P ops b s ∧ (memless s.o = true ∨ (l.take p).countP (fun x => effB ops x.i && !befB (masks ops) x.i s.i) ≤ b)
  mod : ∀ (p : Nat) (s : Sp), l[p]? = some s → Mod η s.a s.h
  at_ : ∀ (p : Nat) (s : Sp), l[p]? = some s → s.a = regAt l a0 p ∧ s.h = hpAt l h0 p ∧ s.base = baseAt l b0 p
  inj : ∀ (p q : Nat) (s s' : Sp), l[p]? = some s → l[q]? = some s' → s.i = s'.i → p = q
  pair : ∀ (p q : Nat) (s s' : Sp), p < q → l[p]? = some s → l[q]? = some s' → befB (masks ops) s.i s'.i = true ∨ (isEff s'.o = false ∧ s.o.apart ops s'.o = true)
theorem SpOk.size {b : Nat} {s : Sp} (h : SpOk η P ops b s) : s.h.size ≤ s.h'.size := by
  obtain ⟨_, h⟩ := h
  cases hk : s.k with
  | skip => rw [hk] at h; rw [h.2.2]; exact Nat.le_refl _
  | quiet => rw [hk] at h; rw [h.2.1]; exact Nat.le_refl _
  | new n => rw [hk] at h; rw [h.2.2.2.2, Hp.size_push]; omega
  | eff => rw [hk] at h; exact h.2.2.2
theorem SpOk.eff {b : Nat} {s : Sp} (h : SpOk η P ops b s) : s.k.eff? = true → isEff s.o = true := by
  intro e
  obtain ⟨_, h⟩ := h
  cases hk : s.k with
  | skip => rw [hk] at e; simp [SpK.eff?] at e
  | quiet => rw [hk] at e; simp [SpK.eff?] at e
  | new n => rw [hk] at e; simp [SpK.eff?] at e
  | eff => rw [hk] at h; exact h.2.1
section
variable {l : List Sp} {a0 : Regs} {h0 : Hp} {b0 : List Hp} {φ0 : Place} {W0 : World} {listed : Array Bool}
theorem Ord.size (O : Ord η P ops l a0 h0 b0) {k : Nat} : ∀ (d : Nat), k + d ≤ l.length → (hpAt l h0 k).size ≤ (hpAt l h0 (k + d)).size
  | 0, _ => Nat.le_refl _
  | d + 1, h => by
    have ih := O.size (k := k) d (by omega)
    have hlt : k + d < l.length := by omega
    have hs : l[k + d]? = some l[k + d] := by simp [hlt]
    obtain ⟨b, hok, _⟩ := O.ok _ _ hs
    have e1 := hpAt_succ (h := h0) hs
    have e2 := (O.at_ _ _ hs).2.1
    have := hok.size
    rw [show k + (d + 1) = k + d + 1 by omega, e1]
    rw [e2] at this
    omega
theorem Ord.size' (O : Ord η P ops l a0 h0 b0) {k p : Nat} (h : k ≤ p) (hp : p ≤ l.length) : (hpAt l h0 k).size ≤ (hpAt l h0 p).size := by
  have := O.size (k := k) (p - k) (by omega)
  rwa [show k + (p - k) = p by omega] at this
/-- What is executed already joins the order's beginning. -/
theorem RelK.absorb (O : Ord η P ops l a0 h0 b0) {k : Nat} {A : Act} {W : World} {s : Sp} (h : RelK η l a0 h0 φ0 W0 k listed A W) (hs : l[k]? = some s) (he : ex listed s = true) : RelK η l a0 h0 φ0 W0 (k + 1) listed A W := by
  obtain ⟨h1, h2, h3, φ, a, g1, g2, g3, g4, g5, m⟩ := h
  have hk : k < l.length := (List.getElem?_eq_some_iff.1 hs).1
  refine ⟨by omega, ?_, ?_, φ, a, g1, g2, g3, g4, g5, ?_⟩
  · intro p s' hp hp'
    by_cases e : p = k
    · subst e; rw [hs] at hp'; injection hp' with hp'; subst hp'; exact he
    · exact h2 p s' (by omega) hp'
  · exact fun p s' hp hp' => h3 p s' (by omega) hp'
  · obtain ⟨b, hok, _⟩ := O.ok _ _ hs
    have e1 := hpAt_succ (h := h0) hs
    have e2 := (O.at_ _ _ hs).2.1
    have hne := h3 k s (Nat.le_refl _) hs he
    obtain ⟨_, hok⟩ := hok
    have same : s.h' = s.h → (∀ n, s.k ≠ .new n) → Memo η l h0 (k + 1) listed φ W := by
      intro e hn
      have hh : hpAt l h0 (k + 1) = hpAt l h0 k := by rw [e1, e, e2]
      refine ⟨by rw [hh]; exact m.obj, fun p s' n hp => m.early p s' n (by omega), ?_, by rw [hh]; exact m.sep⟩
      intro κ b s' hκ
      obtain ⟨d1, d2⟩ := m.dom κ b s' hκ
      refine ⟨d1, ?_⟩
      rw [hh]
      rcases d2 with d2 | ⟨p, s'', n, q1, q2, q3, q4, q5⟩
      · exact .inl d2
      · refine .inr ⟨p, s'', n, ?_, q2, q3, q4, q5⟩
        by_cases e : p = k
        · subst e; rw [hs] at q2; injection q2 with q2; subst q2; exact absurd q4 (hn n)
        · omega
    cases hk' : s.k with
    | skip => rw [hk'] at hok; exact same hok.2.2 (fun n e => by rw [hk'] at e; cases e)
    | quiet => rw [hk'] at hok; exact same hok.2.1 (fun n e => by rw [hk'] at e; cases e)
    | eff => rw [hk'] at hne; simp [SpK.eff?] at hne
    | new n =>
      rw [hk'] at hok
      obtain ⟨bk, f1, f2, f3⟩ := m.early k s n (Nat.le_refl _) hs he hk'
      have hh : hpAt l h0 (k + 1) = (hpAt l h0 k).push n.o := by rw [e1, hok.2.2.2.2, e2]
      have hsz : s.h.size = (hpAt l h0 k).size := by rw [e2]
      have key : ∀ κ o, (hpAt l h0 (k + 1)).get κ = some o → (κ < (hpAt l h0 k).size ∧ (hpAt l h0 k).get κ = some o) ∨ (κ = s.h.size ∧ o = n.o) := by
        intro κ o hg
        rw [hh, Hp.get_push] at hg
        split at hg
        · rename_i q; exact .inl ⟨q, hg⟩
        · split at hg
          · rename_i q; injection hg with hg; exact .inr ⟨by rw [hsz]; exact q.1, hg.symm⟩
          · simp at hg
      refine ⟨?_, fun p s' n hp => m.early p s' n (by omega), ?_, ?_⟩
      · intro κ o hg hd
        rcases key κ o hg with ⟨_, q⟩ | ⟨rfl, rfl⟩
        · exact m.obj κ o q hd
        · exact ⟨bk, (0, 0), f1, f2⟩
      · intro κ b s' hκ
        obtain ⟨d1, d2⟩ := m.dom κ b s' hκ
        refine ⟨d1, ?_⟩
        rw [hh, Hp.size_push]
        rcases d2 with d2 | ⟨p, s'', n', q1, q2, q3, q4, q5⟩
        · exact .inl (by omega)
        · by_cases e : p = k
          · subst e; rw [hs] at q2; injection q2 with q2; subst q2; exact .inl (by omega)
          · exact .inr ⟨p, s'', n', by omega, q2, q3, q4, q5⟩
      · intro i j b s1 s2 oi oj hi hj hoi hoj hdi hdj
        rcases key i oi hoi with ⟨_, qi⟩ | ⟨rfl, rfl⟩ <;> rcases key j oj hoj with ⟨_, qj⟩ | ⟨rfl, rfl⟩
        · exact m.sep i j b s1 s2 oi oj hi hj qi qj hdi hdj
        · rw [f1] at hj; injection hj with hj; injection hj with hj1 hj2; subst hj1
          exact .inl (f3 i s1 hi)
        · rw [f1] at hi; injection hi with hi; injection hi with hi1 hi2; subst hi1
          exact .inl (f3 j s2 hj).symm
        · exact .inl rfl
/-- All that is executed already at the beginning. -/
theorem RelK.absorbs (O : Ord η P ops l a0 h0 b0) {A : Act} {W : World} : ∀ (d k : Nat), l.length - k = d → RelK η l a0 h0 φ0 W0 k listed A W →
    ∃ k', RelK η l a0 h0 φ0 W0 k' listed A W ∧ (∀ s, l[k']? = some s → ex listed s = false)
  | 0, k, e, h => ⟨k, h, fun s hs => by have := (List.getElem?_eq_some_iff.1 hs).1; omega⟩
  | d + 1, k, e, h => by
    have hk : k < l.length := by omega
    have hs : l[k]? = some l[k] := by simp [hk]
    cases he : ex listed l[k] with
    | true => exact RelK.absorbs O d (k + 1) (by omega) (h.absorb O hs he)
    | false => exact ⟨k, h, fun s hs' => by rw [hs] at hs'; injection hs' with hs'; subst hs'; exact he⟩
end
end
end
end Go.Proofs.YtbobnbndbgpanaaGreat.Sx
