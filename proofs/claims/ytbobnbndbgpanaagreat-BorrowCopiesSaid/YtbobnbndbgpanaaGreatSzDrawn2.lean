/- Regions whose order is open: one more operation, in any order. -/
import Derived.Test.YtbobnbndbgpanaaGreatSzDrawn
namespace Go.Proofs.YtbobnbndbgpanaaGreat.Sx
open Go
set_option linter.unusedVariables false
set_option linter.unusedSimpArgs false
noncomputable section

section
variable {η : Env} {P : Program} {ops : Array Oper} {l : List Sp} {a0 : Regs} {h0 : Hp} {b0 : List Hp} {φ0 : Place} {W0 : World} {listed : Array Bool}

theorem ex_set {i : Nat} (hi : i < listed.size) (s : Sp) : ex (listed.setIfInBounds i true) s = true ↔ ex listed s = true ∨ s.i = i := by
  unfold ex
  by_cases e : s.i = i
  · rw [e]; simp [Array.getD, hi]
  · rw [getD_set_ne false (fun q => e q.symm)]; simp [e]
/-- What is not ordered beside a ready operation does not bear on it. -/
theorem Ord.apart (O : Ord η P ops l a0 h0 b0) (hd : Down ops listed) {p : Nat} {s : Sp} (hs : l[p]? = some s) (hr : Rdy ops listed s.i) (hn : ex listed s = false) {q : Nat} {s' : Sp} (hs' : l[q]? = some s')
    (hq : (q < p ∧ ex listed s' = false) ∨ (p < q ∧ ex listed s' = true)) :
    (∀ d, s'.o.dst = some d → d ∉ s.o.looksAt ops) ∧ (∀ d, s'.o.dst = some d → s.o.dst ≠ some d) ∧ (∀ d, s.o.dst = some d → d ∉ s'.o.looksAt ops) ∧ (q < p → isEff s.o = false) := by
  rcases hq with ⟨h1, h2⟩ | ⟨h1, h2⟩
  · rcases O.pair q p s' s h1 hs' hs with e | ⟨e1, e2⟩
    · have := befB_ok hd e hr
      unfold ex at h2; rw [this] at h2; simp at h2
    · obtain ⟨g1, g2, g3⟩ := Oper.apart_spec e2
      exact ⟨g1, g2, g3, fun _ => e1⟩
  · rcases O.pair p q s s' h1 hs hs' with e | ⟨e1, e2⟩
    · have := befB_ok hd e (hd _ h2)
      unfold ex at hn; rw [this] at hn; simp at hn
    · obtain ⟨g1, g2, g3⟩ := Oper.apart_spec e2
      exact ⟨g3, fun d hd' he => g2 d he hd', g1, fun h => by omega⟩
theorem Ord.agree (O : Ord η P ops l a0 h0 b0) (hd : Down ops listed) {p : Nat} {s : Sp} (hs : l[p]? = some s) (hr : Rdy ops listed s.i) (hn : ex listed s = false) {a : Regs}
    (hv : ∀ t, a.get t = valL listed a0.size t l (a0.get t)) {t : Nat} (ht : t ∈ s.o.looksAt ops) : a.get t = s.a.get t := by
  rw [hv, (O.at_ p s hs).1, regAt_get _ _ _ _ O.small]
  refine val_agree l p _ fun q s' hq hdst => ?_
  constructor
  · intro he
    rcases Nat.lt_trichotomy q p with h | h | h
    · exact h
    · subst h; rw [hs] at hq; injection hq with hq; subst hq; rw [hn] at he; simp at he
    · exact absurd ht ((O.apart hd hs hr hn hq (.inr ⟨h, he⟩)).1 t hdst)
  · intro h
    cases he : ex listed s' with
    | true => rfl
    | false => exact absurd ht ((O.apart hd hs hr hn hq (.inl ⟨h, he⟩)).1 t hdst)
theorem looks_operand {o : Oper} {t : Nat} (h : Operand.tmp t ∈ o.op.operands) : t ∈ o.looksAt ops :=
  List.mem_append_left _ (List.mem_filterMap.2 ⟨.tmp t, by simpa using h, rfl⟩)
theorem looks_guard {o : Oper} {j : Nat} {want : Bool} {d : Tmp} (hg : o.guard = some (j, want)) (hd : slotOf ops j = some d) : d ∈ o.looksAt ops := by
  unfold Oper.looksAt
  rw [hg]
  refine List.mem_append_right _ ?_
  unfold slotOf at hd
  split at hd
  · rename_i oj hj; simp [hj, hd]
  · simp at hd
theorem evalO_agree {a a' : Regs} {o : Oper} (h : ∀ t ∈ o.looksAt ops, a.get t = a'.get t) : ∀ x ∈ o.op.operands, evalO a x = evalO a' x := by
  intro x hx
  cases x with
  | tmp t => simp only [evalO]; rw [h t (looks_operand hx)]
  | _ => rfl
theorem want_agree {a a' : Regs} {o : Oper} (h : ∀ t ∈ o.looksAt ops, a.get t = a'.get t) (hw : WantV η ops a' o) : WantV η ops a o := by
  rcases hw with hg | ⟨j, want, d, b, hg, hd, hb, hbw⟩
  · exact .inl hg
  · exact .inr ⟨j, want, d, b, hg, hd, by rw [h d (looks_guard hg hd)]; exact hb, hbw⟩
theorem unw_agree {a a' : Regs} {o : Oper} (h : ∀ t ∈ o.looksAt ops, a.get t = a'.get t) (hw : UnwV η ops a' o) : UnwV η ops a o := by
  obtain ⟨j, want, d, hg, hd, hb⟩ := hw
  exact ⟨j, want, d, hg, hd, by rw [h d (looks_guard hg hd)]; exact hb⟩
/-- The temporaries behind one more operation. -/
theorem Ord.vals (O : Ord η P ops l a0 h0 b0) (hd : Down ops listed) {p : Nat} {s : Sp} (hs : l[p]? = some s) (hr : Rdy ops listed s.i) (hn : ex listed s = false) (hi : s.i < listed.size) {a : Regs} (hsz : a.size = a0.size)
    (hv : ∀ t, a.get t = valL listed a0.size t l (a0.get t)) (t : Nat) : (putV a s.o.dst s.w).get t = valL (listed.setIfInBounds s.i true) a0.size t l (a0.get t) := by
  rw [putV_get a (by rw [hsz]; exact O.small), hsz, hv]
  refine (val_put (listed := listed) l p s _ hs (fun q s' hq => ?_) (fun q s' h hq e1 e2 => ?_)).symm
  · rw [ex_set hi]
    constructor
    · rintro (h | h)
      · exact .inl h
      · exact .inr (O.inj q p s' s hq hs h)
    · rintro (h | h)
      · exact .inl h
      · subst h; rw [hs] at hq; injection hq with hq; subst hq; exact .inr rfl
  · cases he : ex listed s' with
    | false => rfl
    | true => exact absurd e2 ((O.apart hd hs hr hn hq (.inr ⟨h, he⟩)).2.1 t e1)

/-- The memory of the order's beginning, with room for what came early. -/
def Hp.pad (h : Hp) : Nat → Hp
  | 0 => h
  | n + 1 => (h.pad n).push .dead
theorem Hp.pad_size (h : Hp) : ∀ n, (h.pad n).size = h.size + n
  | 0 => rfl
  | n + 1 => by show ((h.pad n).push .dead).size = _; rw [Hp.size_push, Hp.pad_size h n]; omega
theorem Hp.pad_get (h : Hp) (k : Nat) : ∀ n, (k < h.size → (h.pad n).get k = h.get k) ∧ (¬ k < h.size → ∀ o, (h.pad n).get k = some o → o.isDead = true)
  | 0 => ⟨fun _ => rfl, fun h1 o e => absurd (Hp.get_lt e) h1⟩
  | n + 1 => by
    obtain ⟨h1, h2⟩ := Hp.pad_get h k n
    show (k < h.size → ((h.pad n).push .dead).get k = h.get k) ∧ (¬ k < h.size → ∀ o, ((h.pad n).push .dead).get k = some o → o.isDead = true)
    rw [Hp.get_push]
    constructor
    · intro hk; rw [if_pos (by rw [Hp.pad_size]; omega)]; exact h1 hk
    · intro hk o e
      split at e
      · exact h2 hk o e
      · split at e
        · injection e with e; subst e; rfl
        · simp at e
theorem Memo.padSR {k : Nat} {φ : Place} {W : World} (m : Memo η l h0 k listed φ W) (n : Nat) (hn : ∀ κ b s, φ κ = some (b, s) → κ < (hpAt l h0 k).size + n) {f : List (B × Bool)} (hf : ∀ p ∈ f, p.1.den η = p.2) : SR η φ ⟨(hpAt l h0 k).pad n, f⟩ W := by
  have key : ∀ κ o, ((hpAt l h0 k).pad n).get κ = some o → o.isDead = false → (hpAt l h0 k).get κ = some o := by
    intro κ o hg hd
    obtain ⟨h1, h2⟩ := Hp.pad_get (hpAt l h0 k) κ n
    by_cases hk : κ < (hpAt l h0 k).size
    · rw [← h1 hk]; exact hg
    · have := h2 hk o hg; rw [hd] at this; simp at this
  refine ⟨fun κ o hg hd => m.obj κ o (key κ o hg hd) hd, fun κ b s hκ => ⟨?_, (m.dom κ b s hκ).1⟩, ?_, hf⟩
  · rw [Hp.pad_size]; exact hn κ b s hκ
  · exact fun i j b s1 s2 oi oj hi hj hoi hoj hdi hdj => m.sep i j b s1 s2 oi oj hi hj (key i oi hoi hdi) (key j oj hoj hdj) hdi hdj
/-- What the memory behind the last effect holds, the order's beginning holds. -/
theorem Ord.base_le (O : Ord η P ops l a0 h0 b0) (hb : ∃ x t, b0 = x :: t ∧ Hp.le x h0) : ∀ (k : Nat), k ≤ l.length → ∃ x t, baseAt l b0 k = x :: t ∧ Hp.le x (hpAt l h0 k)
  | 0, _ => by
    have e1 : baseAt l b0 0 = b0 := by cases l <;> rfl
    have e2 : hpAt l h0 0 = h0 := by cases l <;> rfl
    rw [e1, e2]; exact hb
  | k + 1, h => by
    obtain ⟨x, t, h1, h2⟩ := O.base_le hb k (by omega)
    have hlt : k < l.length := by omega
    have hs : l[k]? = some l[k] := by simp [hlt]
    rw [baseAt_succ hs, hpAt_succ hs]
    obtain ⟨b, hok, _⟩ := O.ok _ _ hs
    obtain ⟨_, e2, _⟩ := O.at_ _ _ hs
    obtain ⟨_, hok⟩ := hok
    cases hk : l[k].k with
    | skip => rw [hk] at hok; simp only [SpK.eff?, Bool.false_eq_true, if_false]; rw [hok.2.2, e2]; exact ⟨x, t, h1, h2⟩
    | quiet => rw [hk] at hok; simp only [SpK.eff?, Bool.false_eq_true, if_false]; rw [hok.2.1, e2]; exact ⟨x, t, h1, h2⟩
    | new n => rw [hk] at hok; simp only [SpK.eff?, Bool.false_eq_true, if_false]; rw [hok.2.2.2.2, e2]; exact ⟨x, t, h1, Hp.le_push h2 _⟩
    | eff => simp only [SpK.eff?, if_true]; exact ⟨_, _, rfl, Hp.le_refl _⟩
/-- The memories behind effects from one place to another. -/
theorem base_back (l : List Sp) (b0 : List Hp) (k : Nat) : ∀ (d : Nat), k + d ≤ l.length → ∀ j, (baseAt l b0 (k + d))[((l.take (k + d)).drop k).countP (fun x => x.k.eff?) + j]? = (baseAt l b0 k)[j]?
  | 0, h, j => by
    have : ((l.take (k + 0)).drop k) = [] := by simp
    rw [this]; simp
  | d + 1, h, j => by
    have ih := base_back l b0 k d (by omega)
    have hlt : k + d < l.length := by omega
    have hs : l[k + d]? = some l[k + d] := by simp [hlt]
    have e : (l.take (k + (d + 1))).drop k = (l.take (k + d)).drop k ++ [l[k + d]] := by
      rw [show k + (d + 1) = k + d + 1 by omega, List.take_add_one, hs, List.drop_append]
      simp [show k - min (k + d) l.length = 0 by omega]
    rw [show k + (d + 1) = k + d + 1 by omega, baseAt_succ hs, show (l.take (k + d + 1)).drop k = (l.take (k + d)).drop k ++ [l[k + d]] from e, List.countP_append]
    cases hk : l[k + d].k.eff? with
    | true =>
      simp only [if_true, List.countP_cons, List.countP_nil, hk]
      rw [show List.countP (fun x => x.k.eff?) (List.drop k (List.take (k + d) l)) + (0 + 1) + j = (List.countP (fun x => x.k.eff?) (List.drop k (List.take (k + d) l)) + j) + 1 by omega]
      simpa using ih j
    | false =>
      simp only [List.countP_cons, List.countP_nil, hk]
      simpa using ih j
/-- A float, in any order. -/
theorem RelK.float (O : Ord η P ops l a0 h0 b0) (hb : ∃ x t, b0 = x :: t ∧ Hp.le x h0) (hd : Down ops listed) {k p : Nat} {s : Sp} {A : Act} {W : World} (h : RelK η l a0 h0 φ0 W0 k listed A W)
    (hs : l[p]? = some s) (hkp : k ≤ p) (hr : Rdy ops listed s.i) (hn : ex listed s = false) (hi : s.i < listed.size) (hf : s.k.eff? = false) {K : Act → World → Prop} {Q : Exit → Act → World → Prop}
    (hK : ∀ A' W', RelK η l a0 h0 φ0 W0 k (listed.setIfInBounds s.i true) A' W' → K A' W') : wpOp P ops Q s.i K A W := by
  obtain ⟨h1, h2, h3, φ, a, g1, g2, g3, g4, g5, m⟩ := h
  have hp : p < l.length := (List.getElem?_eq_some_iff.1 hs).1
  have agree : ∀ t ∈ s.o.looksAt ops, a.get t = s.a.get t := fun t ht => O.agree hd hs hr hn g5 ht
  have hev := evalO_agree agree
  obtain ⟨e1, e2, e3⟩ := O.at_ _ _ hs
  obtain ⟨b, hok, hfew⟩ := O.ok _ _ hs
  obtain ⟨ho, hok⟩ := hok
  have pre' : ∀ (q : Nat) (s' : Sp), q < k → l[q]? = some s' → ex (listed.setIfInBounds s.i true) s' = true := fun q s' hq hq' => (ex_set hi s').2 (.inl (h2 q s' hq hq'))
  have flo' : ∀ (q : Nat) (s' : Sp), k ≤ q → l[q]? = some s' → ex (listed.setIfInBounds s.i true) s' = true → s'.k.eff? = false := by
    intro q s' hq hq' he
    rcases (ex_set hi s').1 he with he | he
    · exact h3 q s' hq hq' he
    · have := O.inj q p s' s hq' hs he
      subst this; rw [hs] at hq'; injection hq' with hq'; subst hq'; exact hf
  have same : ∀ (φ' : Place) (W' : World), (∀ n, s.k ≠ .new n) → φ' = φ → W' = W → Memo η l h0 k (listed.setIfInBounds s.i true) φ' W' := by
    rintro φ' W' hnn rfl rfl
    refine ⟨m.obj, fun q s' n hq hq' he hk' => ?_, ?_, m.sep⟩
    · rcases (ex_set hi s').1 he with he | he
      · exact m.early q s' n hq hq' he hk'
      · have := O.inj q p s' s hq' hs he
        subst this; rw [hs] at hq'; injection hq' with hq'; subst hq'; exact absurd hk' (hnn n)
    · intro κ b s' hκ
      obtain ⟨d1, d2⟩ := m.dom κ b s' hκ
      refine ⟨d1, d2.imp id ?_⟩
      rintro ⟨q, s'', n, q1, q2, q3, q4⟩
      exact ⟨q, s'', n, q1, q2, (ex_set hi s'').2 (.inl q3), q4⟩
  have fin : ∀ (φ' : Place) (W' : World) (v' : Value), Ext φ φ' W W' → VR η φ' s.w v' → Memo η l h0 k (listed.setIfInBounds s.i true) φ' W' → K (A.put s.o.dst v') W' := by
    intro φ' W' v' x1 x2 x3
    refine hK _ _ ⟨h1, pre', flo', φ', putV a s.o.dst s.w, g1.trans x1, put_ar (g2.mono x1.mono) _ x2, ?_, ?_, O.vals hd hs hr hn hi g3 g5, x3⟩
    · unfold putV; split
      · rw [Regs.size_set]; exact g3
      · exact g3
    · unfold putV; split
      · rw [Regs.defs_set]; exact g4
      · exact g4
  unfold wpOp
  rw [ho]
  simp only
  cases hk : s.k with
  | skip =>
    rw [hk] at hok
    obtain ⟨u1, u2, u3⟩ := hok
    rw [if_neg (by rw [unw_ok g2 (unw_agree agree u1)]; simp)]
    have := fin φ W undef (Ext.refl _ _) (by rw [u2]; exact undef_vr) (same φ W (fun n e => by rw [hk] at e; cases e) rfl rfl)
    exact this
  | eff => rw [hk] at hf; simp [SpK.eff?] at hf
  | quiet =>
    rw [hk] at hok
    obtain ⟨u1, u2, u3, u4⟩ := hok
    rw [if_pos (want_ok g2 (want_agree agree u1))]
    refine .inl ?_
    -- a number above all places
    have hN : ∃ n, ∀ κ b s, φ κ = some (b, s) → κ < (hpAt l h0 k).size + n := by
      refine ⟨(hpAt l h0 l.length).size, fun κ b s hκ => ?_⟩
      rcases (m.dom κ b s hκ).2 with q | ⟨q, s', n, q1, q2, q3, q4, q5⟩
      · omega
      · have hq : q < l.length := (List.getElem?_eq_some_iff.1 q2).1
        have w1 := O.size' (k := q + 1) (p := l.length) (by omega) (Nat.le_refl _)
        obtain ⟨b', hok', _⟩ := O.ok _ _ q2
        obtain ⟨_, hok'⟩ := hok'
        rw [q4] at hok'
        have w2 := hpAt_succ (h := h0) q2
        rw [w2, hok'.2.2.2.2, Hp.size_push] at w1
        omega
    obtain ⟨n, hN⟩ := hN
    have run : ∀ (hb' : Hp) (f : List (B × Bool)) (s1 : St), Fok η ⟨hb', f⟩ → (opF P s.a ⟨hb', f⟩ s.o).sel η = some (.val s.w s1) → (memless s.o = true ∨ Hp.le hb' ((hpAt l h0 k).pad n)) → s.o.wp P A W K Q := by
      intro hb' f s1 hf' hrun hml
      have hfn : Fok η (⟨(hpAt l h0 k).pad n, f⟩ : St) := hf'
      rw [← (opE_congr (P := P) (st := ⟨hb', f⟩) hev).1] at hrun
      obtain ⟨v, s2, s2', he, hr2, _⟩ := two_opF (st := ⟨hb', f⟩) (st' := ⟨(hpAt l h0 k).pad n, f⟩) hf' hfn a s.o hml _ hrun
      injection he with he1 he2; subst he1
      obtain ⟨v3, st3, v', he, hres, hv', _⟩ := opF_ok g2 (m.padSR n hN hf') hr2
      injection he with he1 he2; subst he1
      unfold Oper.wp
      rw [hres]
      exact fin φ W v' (Ext.refl _ _) hv' (same φ W (fun n e => by rw [hk] at e; cases e) rfl rfl)
    rcases u4 with ⟨hml, f, s1, hf', hrun⟩ | ⟨hml, hall⟩
    · exact run _ f s1 hf' hrun (.inl hml)
    · -- the memory behind the last effect ahead of the beginning's end
      obtain ⟨x, t, hx, hxle⟩ := O.base_le hb k (by omega)
      have hbk := base_back l b0 k (p - k) (by omega) 0
      rw [show k + (p - k) = p by omega, hx] at hbk
      simp only [Nat.add_zero, List.getElem?_cons_zero] at hbk
      rw [← e3] at hbk
      have hcnt : ((l.take p).drop k).countP (fun x => x.k.eff?) ≤ b := by
        rcases hfew with hfew | hfew
        · rw [hml] at hfew; simp at hfew
        · refine Nat.le_trans ?_ hfew
          have split : l.take p = (l.take p).take k ++ (l.take p).drop k := (List.take_append_drop k _).symm
          rw [split, List.countP_append, ← split]
          refine Nat.le_trans ?_ (Nat.le_add_left _ _)
          refine List.countP_mono_left ?_
          intro y hy he
          obtain ⟨j, hj, hjy⟩ := List.getElem_of_mem hy
          have hq : l[k + j]? = some y := by
            rw [List.getElem_drop] at hjy
            simp only [List.getElem_take] at hjy
            rw [← hjy]
            simp at hj
            simp [show k + j < l.length by omega]
          have hqp : k + j < p := by simp at hj; omega
          have hne : ex listed y = false := by
            cases hey : ex listed y with
            | false => rfl
            | true => have := h3 (k + j) y (by omega) hq hey; rw [this] at he; simp at he
          obtain ⟨b', hok', _⟩ := O.ok _ _ hq
          have hef := hok'.eff he
          rw [Bool.and_eq_true]
          refine ⟨by unfold effB; rw [hok'.1]; exact hef, ?_⟩
          cases hbef : befB (masks ops) y.i s.i with
          | false => rfl
          | true => have := befB_ok hd hbef hr; unfold ex at hne; rw [this] at hne; simp at hne
      obtain ⟨f, s1, hf', hrun⟩ := hall _ x hcnt hbk
      refine run x f s1 hf' hrun (.inr fun κ o hg hdd => ?_)
      have := hxle κ o hg hdd
      rw [(Hp.pad_get (hpAt l h0 k) κ n).1 (Hp.get_lt this)]
      exact this
  | new nw =>
    rw [hk] at hok
    obtain ⟨u1, u2, u3, u4, u5⟩ := hok
    rw [if_pos (want_ok g2 (want_agree agree u1))]
    refine .inl ?_
    rw [← (opE_congr (P := P) (st := ⟨h0, []⟩) hev).2.1] at u3
    obtain ⟨hal, OB, v', hres, hput⟩ := newE_ok (W := W) g2 u3
    unfold Oper.wp
    rw [hres]
    have hfree : φ s.h.size = none := by
      cases hq : φ s.h.size with
      | none => rfl
      | some bs =>
        exfalso
        obtain ⟨bb, ss⟩ := bs
        rcases (m.dom _ bb ss hq).2 with q | ⟨q, s', n, q1, q2, q3, q4, q5⟩
        · have := O.size' (k := k) (p := p) hkp (by omega); rw [e2] at q; omega
        · have hql : q < l.length := (List.getElem?_eq_some_iff.1 q2).1
          have c2 := (O.at_ _ _ q2).2.1
          obtain ⟨b', hok', _⟩ := O.ok _ _ q2
          obtain ⟨_, hok'⟩ := hok'
          rw [q4] at hok'
          have w2 := hpAt_succ (h := h0) q2
          have w3 := hpAt_succ (h := h0) hs
          rcases Nat.lt_trichotomy q p with c | c | c
          · have w1 := O.size' (k := q + 1) (p := p) (by omega) (by omega)
            rw [w2, hok'.2.2.2.2, Hp.size_push] at w1
            rw [e2] at q5; omega
          · subst c; rw [hs] at q2; injection q2 with q2; subst q2; rw [hn] at q3; simp at q3
          · have w1 := O.size' (k := p + 1) (p := q) (by omega) (by omega)
            rw [w3, u5, Hp.size_push, ← c2] at w1
            omega
    have mono : Mono φ (φ.put s.h.size W.heap.size (0, 0)) := by
      intro κ pp hκ
      unfold Place.put
      split
      · rename_i e; subst e; rw [hfree] at hκ; simp at hκ
      · exact hκ
    have hx : Ext φ (φ.put s.h.size W.heap.size (0, 0)) W (W.alloc OB) := by
      refine ⟨mono, ?_, rfl, rfl, rfl, by simp, fun b hb _ => by rw [heap_alloc_old _ _ hb]⟩
      intro κ b ss hκ hno
      unfold Place.put at hκ
      split at hκ
      · injection hκ with hκ; injection hκ with q1 q2; subst q1; exact .inl (Nat.le_refl _)
      · rw [hno] at hκ; simp at hκ
    obtain ⟨p1, p2⟩ := hput _ mono s.h.size (by simp [Place.put])
    refine fin _ _ v' hx (by rw [u4]; exact p1) ⟨?_, ?_, ?_, ?_⟩
    · intro κ o hg hdd
      obtain ⟨b, ss, q1, q2⟩ := m.obj κ o hg hdd
      exact ⟨b, ss, mono κ _ q1, by rw [heap_alloc_old _ _ (m.dom κ b ss q1).1]; exact q2.mono mono⟩
    · intro q s' n' hq hq' he hk'
      rcases (ex_set hi s').1 he with he | he
      · obtain ⟨b, q1, q2, q3⟩ := m.early q s' n' hq hq' he hk'
        have hbl := (m.dom _ b _ q1).1
        refine ⟨b, mono _ _ q1, by rw [heap_alloc_old _ _ hbl]; exact q2.mono mono, fun κ ss hκ => ?_⟩
        unfold Place.put at hκ
        split at hκ
        · injection hκ with hκ; injection hκ with r1 r2; omega
        · exact q3 κ ss hκ
      · have hqp := O.inj q p s' s hq' hs he
        subst hqp; rw [hs] at hq'; injection hq' with hq'; subst hq'
        rw [hk] at hk'; injection hk' with hk'; subst hk'
        refine ⟨W.heap.size, by simp [Place.put], by rw [heap_alloc_new]; exact p2, fun κ ss hκ => ?_⟩
        unfold Place.put at hκ
        split at hκ
        · rename_i r; exact r
        · have := (m.dom κ _ ss hκ).1; omega
    · intro κ b ss hκ
      unfold Place.put at hκ
      split at hκ
      · rename_i r
        injection hκ with hκ; injection hκ with r1 r2
        refine ⟨by simp; omega, .inr ⟨p, s, nw, hkp, hs, (ex_set hi s).2 (.inr rfl), hk, r⟩⟩
      · obtain ⟨d1, d2⟩ := m.dom κ b ss hκ
        refine ⟨by simp; omega, d2.imp id ?_⟩
        rintro ⟨q, s'', n, q1, q2, q3, q4⟩
        exact ⟨q, s'', n, q1, q2, (ex_set hi s'').2 (.inl q3), q4⟩
    · intro i j b s1 s2 oi oj hi' hj' hoi hoj hdi hdj
      have old : ∀ κ b ss o, (φ.put s.h.size W.heap.size (0, 0)) κ = some (b, ss) → (hpAt l h0 k).get κ = some o → φ κ = some (b, ss) := by
        intro κ b ss o hκ ho
        unfold Place.put at hκ
        split at hκ
        · rename_i r
          have := Hp.get_lt ho
          have w := O.size' (k := k) (p := p) hkp (by omega)
          rw [r, e2] at this; omega
        · exact hκ
      exact m.sep i j b s1 s2 oi oj (old i b s1 oi hi' hoi) (old j b s2 oj hj' hoj) hoi hoj hdi hdj
end
end
end Go.Proofs.YtbobnbndbgpanaaGreat.Sx
