/- Regions whose order is open: effects; and the whole. -/
import Derived.Test.YtbobnbndbgpanaaGreatSzDrawn2
namespace Go.Proofs.YtbobnbndbgpanaaGreat.Sx
open Go
set_option linter.unusedVariables false
set_option linter.unusedSimpArgs false
noncomputable section

section
variable {η : Env} {P : Program} {ops : Array Oper} {l : List Sp} {a0 : Regs} {h0 : Hp} {b0 : List Hp} {φ0 : Place} {W0 : World} {listed : Array Bool}

theorem exec_congr {A A' : Act} (o : Oper) (hs : ∀ cs b, o.op ≠ .select cs b) (h : ∀ x ∈ o.op.operands, A.eval x = A'.eval x) : execOp A.eval o = execOp A'.eval o := execOp_congr o hs h
theorem eff_noSelect {o : Oper} (h : isEff o = true) : ∀ cs b, o.op ≠ .select cs b := by
  intro cs b e
  simp [isEff, kindOf, e] at h

/-- At the end of the beginning: the memory by itself, the temporaries that came early forgotten. -/
theorem RelK.here (O : Ord η P ops l a0 h0 b0) {k : Nat} {A : Act} {W : World} (h : RelK η l a0 h0 φ0 W0 k listed A W) {ak : Regs} {hk : Hp} (ha : ak = regAt l a0 k) (hh : hk = hpAt l h0 k) (hm : Mod η ak hk) :
    ∃ φ a D, Ext φ0 φ W0 W ∧ AR η φ a A ∧ a.size = a0.size ∧ a.defs = a0.defs ∧ (∀ t, a.get t = valL listed a0.size t l (a0.get t)) ∧ Memo η l h0 k listed φ W ∧
      AR η (φ.cut hk.size) (resetR D ak) (resetA D A) ∧ SR η (φ.cut hk.size) ⟨hk, []⟩ W ∧ (∀ t ∈ D, ∃ (p : Nat) (s : Sp), k ≤ p ∧ l[p]? = some s ∧ ex listed s = true ∧ s.o.dst = some t) := by
  obtain ⟨h1, h2, h3, φ, a, g1, g2, g3, g4, g5, m⟩ := h
  obtain ⟨φm, Am, Wm, ham, hsm⟩ := hm
  have hdm : ∀ κ p, φm κ = some p → κ < hk.size := fun κ p hκ => (hsm.dom κ p.1 p.2 hκ).1
  let D : List Tmp := (l.drop k).filterMap fun s => if ex listed s then s.o.dst else none
  have hD : ∀ t, t ∈ D ↔ ∃ (p : Nat) (s : Sp), k ≤ p ∧ l[p]? = some s ∧ ex listed s = true ∧ s.o.dst = some t := by
    intro t
    simp only [D, List.mem_filterMap]
    constructor
    · rintro ⟨s, hs, he⟩
      split at he
      · rename_i hx
        obtain ⟨j, hj, rfl⟩ := List.getElem_of_mem hs
        refine ⟨k + j, (l.drop k)[j], by omega, ?_, hx, he⟩
        rw [List.getElem_drop]; simp at hj; simp [show k + j < l.length by omega]
      · simp at he
    · rintro ⟨p, s, hp, hs, he, hd⟩
      refine ⟨s, ?_, by simp [he, hd]⟩
      have : (l.drop k)[p - k]? = some s := by rw [List.getElem?_drop, show k + (p - k) = p by omega]; exact hs
      exact List.mem_of_getElem? this
  have hsk : ak.size = a0.size := by rw [ha, regAt_size]
  have hsm4 : ak.size ≤ 400 := by rw [hsk]; exact O.small
  refine ⟨φ, a, D, g1, g2, g3, g4, g5, m, ⟨?_, ?_, ?_, ?_⟩, ?_, fun t ht => (hD t).1 ht⟩
  · rw [resetR_size, resetA_size, hsk, ← g3]; exact g2.size
  · rw [resetR_size]; exact hsm4
  · intro t
    rw [resetR_get D ak hsm4, resetA_get]
    have hsz : A.tmps.size = ak.size := by rw [hsk, ← g3]; exact g2.size.symm
    rw [hsz]
    by_cases c : t ∈ D ∧ t < ak.size
    · rw [if_pos c, if_pos c]; exact undef_vr
    · rw [if_neg c, if_neg c]
      have e : ak.get t = a.get t := by
        rw [g5, ha, regAt_get _ _ _ _ O.small]
        by_cases hlt : t < a0.size
        · refine (val_agree l k _ fun q s' hq hdst => ?_).symm
          constructor
          · intro he
            cases Nat.lt_or_ge q k with
            | inl h => exact h
            | inr h => exact absurd ⟨(hD t).2 ⟨q, s', h, hq, he, hdst⟩, by rw [hsk]; exact hlt⟩ c
          · exact fun h => h2 q s' h hq
        · rw [valN_ge hlt, val_ge hlt]
      rw [e]
      have := g2.tmps t
      have hm' := ham.tmps t
      rw [e] at hm'
      exact this.cut hdm _ hm'
  · rw [resetR_defs, resetA_defers]
    have := g2.defers
    rw [g4] at this
    have hm' := ham.defers
    rw [ha, regAt_defs] at hm' ⊢
    exact this.cut hdm hm'
  · subst hh
    refine ⟨?_, ?_, ?_, fun p hp => by simp at hp⟩
    · intro κ o hg hd
      obtain ⟨b, s, q1, q2⟩ := m.obj κ o hg hd
      obtain ⟨bm, sm, _, q3⟩ := hsm.obj κ o hg hd
      exact ⟨b, s, cut_of (Hp.get_lt hg) q1, q2.cut hdm q3⟩
    · intro κ b s hκ
      obtain ⟨q1, q2⟩ := cut_some hκ
      exact ⟨q1, (m.dom κ b s q2).1⟩
    · exact fun i j b s s' oi oj hi hj => m.sep i j b s s' oi oj (cut_some hi).2 (cut_some hj).2

/-- An effect: all ahead of it in the one order is executed. -/
theorem RelK.effect (O : Ord η P ops l a0 h0 b0) (hd : Down ops listed) {k : Nat} {s : Sp} {A : Act} {W : World} (h : RelK η l a0 h0 φ0 W0 k listed A W)
    (hs : l[k]? = some s) (hr : Rdy ops listed s.i) (hn : ex listed s = false) (hi : s.i < listed.size) (hf : s.k = .eff) {K : Act → World → Prop} {Q : Exit → Act → World → Prop}
    (hK : ∀ A' W', RelK η l a0 h0 φ0 W0 (k + 1) (listed.setIfInBounds s.i true) A' W' → K A' W') : wpOp P ops Q s.i K A W := by
  have hk : k < l.length := (List.getElem?_eq_some_iff.1 hs).1
  obtain ⟨e1, e2, e3⟩ := O.at_ _ _ hs
  obtain ⟨φ, a, D, g1, g2, g3, g4, g5, m, r1, r2, r3⟩ := h.here O e1 e2 (O.mod _ _ hs)
  obtain ⟨h1, h2, h3, _⟩ := h
  obtain ⟨b, hok, _⟩ := O.ok _ _ hs
  obtain ⟨ho, hok⟩ := hok
  rw [hf] at hok
  obtain ⟨u1, u2, u3, u4⟩ := hok
  have agree : ∀ t ∈ s.o.looksAt ops, a.get t = s.a.get t := fun t ht => O.agree hd hs hr hn g5 ht
  have hsz : s.a.size ≤ 400 := by rw [e1, regAt_size]; exact O.small
  have hkept : ∀ x ∈ s.o.op.operands, ∀ t ∈ D, x ≠ .tmp t := by
    rintro x hx t ht rfl
    obtain ⟨p, sp, hkp, hp, he, hdst⟩ := r3 t ht
    by_cases c : p = k
    · subst c; rw [hs] at hp; injection hp with hp; subst hp; rw [hn] at he; simp at he
    · exact (O.apart hd hs hr hn hp (.inr ⟨by omega, he⟩)).1 t hdst (looks_operand hx)
  unfold wpOp
  rw [ho]
  simp only
  rw [if_pos (want_ok g2 (want_agree agree u1))]
  refine .inl ?_
  have hone := u3 (resetR D s.a) (φ.cut s.h.size) (resetA D A) W (fun x hx => resetR_evalO hsz (hkept x hx)) r1 r2
  rw [exec_congr (A := resetA D A) (A' := A) s.o (eff_noSelect u2) (fun x hx => resetA_eval (hkept x hx))] at hone
  have hh' := hpAt_succ (h := h0) hs
  refine hone.val fun φ' v' W' x1 x2 x3 => ?_
  have hdom' : ∀ κ b ss, φ' κ = some (b, ss) → κ < s.h'.size ∧ b < W'.heap.size := x2.dom
  let φ2 : Place := fun κ => if κ < s.h'.size then φ' κ else φ κ
  have lowOf : ∀ κ b ss, φ κ = some (b, ss) → κ < s.h.size → φ' κ = some (b, ss) := fun κ b ss q1 q2 => x3.mono κ _ (cut_of q2 q1)
  have highOf : ∀ κ b ss, φ κ = some (b, ss) → ¬ κ < s.h.size → s.h'.size ≤ κ ∧ ∃ (p : Nat) (s' : Sp) (n : New), k + 1 ≤ p ∧ l[p]? = some s' ∧ ex listed s' = true ∧ s'.k = .new n ∧ κ = s'.h.size := by
    intro κ b ss q1 q2
    rcases (m.dom κ b ss q1).2 with q | ⟨p, s', n, c1, c2, c3, c4, c5⟩
    · rw [← e2] at q; exact absurd q q2
    · have hpk : p ≠ k := by rintro rfl; rw [hs] at c2; injection c2 with c2; subst c2; rw [hn] at c3; simp at c3
      have hp : p < l.length := (List.getElem?_eq_some_iff.1 c2).1
      have w := O.size' (k := k + 1) (p := p) (by omega) (by omega)
      rw [hh', ← (O.at_ _ _ c2).2.1] at w
      exact ⟨by omega, p, s', n, by omega, c2, c3, c4, c5⟩
  have m2 : Mono φ φ2 := by
    intro κ pp hκ
    obtain ⟨b', ss⟩ := pp
    show (if κ < s.h'.size then φ' κ else φ κ) = _
    by_cases c : κ < s.h.size
    · rw [if_pos (by omega)]; exact lowOf κ b' ss hκ c
    · rw [if_neg (by have := (highOf κ b' ss hκ c).1; omega)]; exact hκ
  have m2' : Mono φ' φ2 := by
    intro κ pp hκ
    show (if κ < s.h'.size then φ' κ else φ κ) = _
    rw [if_pos (hdom' κ pp.1 pp.2 hκ).1]; exact hκ
  -- blocks of what came early stay as they are
  have stay : ∀ (p : Nat) (s' : Sp) (n : New) bb, k + 1 ≤ p → l[p]? = some s' → ex listed s' = true → s'.k = .new n → φ s'.h.size = some (bb, (0, 0)) → (∀ κ ss, φ κ = some (bb, ss) → κ = s'.h.size) →
      W'.heap[bb]? = W.heap[bb]? ∧ ∀ κ ss, φ2 κ = some (bb, ss) → κ = s'.h.size := by
    intro p s' n bb c1 c2 c3 c4 c5 c6
    have hp : p < l.length := (List.getElem?_eq_some_iff.1 c2).1
    have w := O.size' (k := k + 1) (p := p) (by omega) (by omega)
    rw [hh', ← (O.at_ _ _ c2).2.1] at w
    have hbb := (m.dom _ bb _ c5).1
    refine ⟨x3.block bb hbb ?_, ?_⟩
    · intro κ ss hκ
      obtain ⟨q1, q2⟩ := cut_some hκ
      have := c6 κ ss q2; omega
    · intro κ ss hκ
      have hκ' : (if κ < s.h'.size then φ' κ else φ κ) = some (bb, ss) := hκ
      split at hκ'
      · exfalso
        cases hc : (φ.cut s.h.size) κ with
        | some pp =>
          have := x3.mono κ pp hc
          rw [hκ'] at this; injection this with this; subst this
          obtain ⟨q1, q2⟩ := cut_some hc
          have := c6 κ ss q2; omega
        | none =>
          rcases x3.fresh κ bb ss hκ' hc with q | ⟨j, ss', q⟩
          · omega
          · obtain ⟨q1, q2⟩ := cut_some q
            have := c6 j ss' q2; omega
      · exact c6 κ ss hκ'
  have hx : Ext φ φ2 W W' := by
    refine ⟨m2, ?_, x3.os, x3.tape, x3.output, x3.size, ?_⟩
    · intro κ bb ss hκ hno
      have hκ' : (if κ < s.h'.size then φ' κ else φ κ) = some (bb, ss) := hκ
      split at hκ'
      · have hc : (φ.cut s.h.size) κ = none := by
          cases hc : (φ.cut s.h.size) κ with
          | none => rfl
          | some pp => rw [(cut_some hc).2] at hno; simp at hno
        rcases x3.fresh κ bb ss hκ' hc with q | ⟨j, ss', q⟩
        · exact .inl q
        · exact .inr ⟨j, ss', (cut_some q).2⟩
      · rw [hno] at hκ'; simp at hκ'
    · intro bb hbb hno
      exact x3.block bb hbb fun κ ss hκ => hno κ ss (cut_some hκ).2
  refine hK _ _ ⟨by omega, ?_, ?_, φ2, putV a s.o.dst s.w, g1.trans hx, put_ar (g2.mono m2) _ (x1.mono m2'), ?_, ?_, O.vals hd hs hr hn hi g3 g5, ?_⟩
  · intro p s' hp hp'
    by_cases c : p = k
    · subst c; rw [hs] at hp'; injection hp' with hp'; subst hp'; exact (ex_set hi _).2 (.inr rfl)
    · exact (ex_set hi s').2 (.inl (h2 p s' (by omega) hp'))
  · intro p s' hp hp' he
    rcases (ex_set hi s').1 he with he | he
    · exact h3 p s' (by omega) hp' he
    · have := O.inj p k s' s hp' hs he; omega
  · unfold putV; split
    · rw [Regs.size_set]; exact g3
    · exact g3
  · unfold putV; split
    · rw [Regs.defs_set]; exact g4
    · exact g4
  · constructor
    · intro κ o hg hdd
      rw [hh'] at hg
      obtain ⟨bb, ss, q1, q2⟩ := x2.obj κ o hg hdd
      exact ⟨bb, ss, m2' κ _ q1, q2.mono m2'⟩
    · intro p s' n hp hp' he hk'
      rcases (ex_set hi s').1 he with he | he
      · obtain ⟨bb, c1, c2, c3⟩ := m.early p s' n (by omega) hp' he hk'
        obtain ⟨c4, c5⟩ := stay p s' n bb hp hp' he hk' c1 c3
        exact ⟨bb, m2 _ _ c1, by rw [c4]; exact c2.mono m2, c5⟩
      · have := O.inj p k s' s hp' hs he; omega
    · intro κ bb ss hκ
      have hκ' : (if κ < s.h'.size then φ' κ else φ κ) = some (bb, ss) := hκ
      split at hκ'
      · rename_i c
        exact ⟨(hdom' κ bb ss hκ').2, .inl (by rw [hh']; exact c)⟩
      · rename_i c
        have hb' := (m.dom κ bb ss hκ').1
        have := x3.size
        obtain ⟨_, p, s', n, c1, c2, c3, c4, c5⟩ := highOf κ bb ss hκ' (by omega)
        exact ⟨by omega, .inr ⟨p, s', n, c1, c2, (ex_set hi s').2 (.inl c3), c4, c5⟩⟩
    · intro i j bb s1 s2 oi oj hi' hj' hoi hoj hdi hdj
      rw [hh'] at hoi hoj
      have low : ∀ κ ss o, φ2 κ = some (bb, ss) → s.h'.get κ = some o → φ' κ = some (bb, ss) := by
        intro κ ss o hκ ho
        have hκ' : (if κ < s.h'.size then φ' κ else φ κ) = some (bb, ss) := hκ
        rw [if_pos (Hp.get_lt ho)] at hκ'; exact hκ'
      exact x2.sep i j bb s1 s2 oi oj (low i s1 oi hi' hoi) (low j s2 oj hj' hoj) hoi hoj hdi hdj

/-! ### The whole -/
def left (listed : Array Bool) : Nat := listed.toList.countP (· == false)
theorem left_set {i : Nat} (h : listed[i]? = some false) : left (listed.setIfInBounds i true) + 1 = left listed := by
  unfold left
  rw [Array.toList_setIfInBounds]
  have h' : listed.toList[i]? = some false := by simpa using h
  generalize listed.toList = q at h'
  clear h
  induction q generalizing i with
  | nil => simp at h'
  | cons x q ih =>
    cases i with
    | zero => simp at h'; subst h'; simp
    | succ i =>
      simp only [List.set_cons_succ, List.countP_cons]
      have := ih (by simpa using h')
      omega
theorem left_zero (h : left listed = 0) (i : Nat) (hi : i < listed.size) : listed.getD i false = true := by
  unfold left at h
  rw [List.countP_eq_zero] at h
  have hm : listed[i] ∈ listed.toList := by simp
  have := h _ hm
  simp only [Array.getD, hi, dif_pos]
  cases e : listed[i] with
  | true => simpa [Array.getD, hi] using e
  | false => rw [e] at this; simp at this
end
end
end Go.Proofs.YtbobnbndbgpanaaGreat.Sx
