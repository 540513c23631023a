/- Places are forgotten from a number on; temporaries are forgotten. -/
import Derived.Test.YtbobnbndbgpanaaGreatSzTrace
namespace Go.Proofs.YtbobnbndbgpanaaGreat.Sx
open Go
set_option linter.unusedVariables false
set_option linter.unusedSimpArgs false
noncomputable section

def Place.cut (φ : Place) (N : Nat) : Place := fun k => if k < N then φ k else none
section
variable {η : Env} {φ φm : Place} {N : Nat}
theorem cut_some {k : Nat} {p : Nat × Nat × Nat} (h : φ.cut N k = some p) : k < N ∧ φ k = some p := by
  unfold Place.cut at h; split at h
  · rename_i e; exact ⟨e, h⟩
  · simp at h
theorem cut_of {k : Nat} {p : Nat × Nat × Nat} (hk : k < N) (h : φ k = some p) : φ.cut N k = some p := by unfold Place.cut; rw [if_pos hk]; exact h
theorem VR.cut (hd : ∀ k p, φm k = some p → k < N) {v : V} {v' : Value} (h : VR η φ v v') : ∀ vm, VR η φm v vm → VR η (φ.cut N) v v' := by
  refine VR.rec (motive_1 := fun v v' _ => ∀ vm, VR η φm v vm → VR η (φ.cut N) v v') (motive_2 := fun l l' _ => ∀ lm, VRs η φm l lm → VRs η (φ.cut N) l l') ?_ ?_ ?_ ?_ ?_ ?_ ?_ ?_ ?_ ?_ ?_ ?_ ?_ ?_ ?_ ?_ ?_ ?_ h
  · exact fun b _ _ => .bool b
  · exact fun k e _ _ => .int k e
  · exact fun s _ _ => .str s
  · exact fun _ _ => .ptrN
  · intro k o b s h vm hm
    cases hm with | ptr _ _ bm sm hmm => exact .ptr k o b s (cut_of (hd _ _ hmm) h)
  · exact fun l c x _ _ => .sliceN l c x
  · intro k o b s l c x h vm hm
    cases hm with | slice _ _ bm sm _ _ _ hmm => exact .slice k o b s l c x (cut_of (hd _ _ hmm) h)
  · exact fun a c _ _ => .sliceE a c
  · exact fun _ _ => .mapN
  · intro k b s h vm hm
    cases hm with | map _ bm sm hmm => exact .map k b s (cut_of (hd _ _ hmm) h)
  · intro fn a c a' c' _ _ h1 h2 vm hm
    cases hm with | func _ _ _ am cm ham hcm => exact .func fn a c a' c' (h1 am ham) (h2 cm hcm)
  · exact fun _ _ => .nilFunc
  · intro t v v' _ h1 vm hm
    cases hm with | iface _ _ vm hm => exact .iface t v v' (h1 vm hm)
  · exact fun _ _ => .nilIface
  · intro cs cs' _ h1 vm hm
    cases hm with | agg _ cm hcm => exact .agg cs cs' (h1 cm hcm)
  · intro cs cs' _ h1 vm hm
    cases hm with | tuple _ cm hcm => exact .tuple cs cs' (h1 cm hcm)
  · exact fun _ _ => .nil
  · intro v v' l l' _ _ h1 h2 lm hm
    cases hm with | cons _ vm _ lm hv hl => exact .cons v v' l l' (h1 vm hv) (h2 lm hl)
theorem VRs.cut (hd : ∀ k p, φm k = some p → k < N) : ∀ {l : List V} {l' lm : List Value}, VRs η φ l l' → VRs η φm l lm → VRs η (φ.cut N) l l'
  | _, _, _, .nil, _ => .nil
  | _, _, _, .cons v v' l l' h t, .cons _ vm _ lm hm tm => .cons v v' l l' (h.cut hd vm hm) (VRs.cut hd t tm)
theorem MR.cut (hd : ∀ k p, φm k = some p → k < N) : ∀ {l : List (V × V × Nat)} {l' lm : List MapEntry}, MR η φ l l' → MR η φm l lm → MR η (φ.cut N) l l'
  | _, _, _, .nil, _ => .nil
  | _, _, _, .cons k v k' v' n l l' hk hv t, .cons _ _ km vm _ _ lm hkm hvm tm => .cons k v k' v' n l l' (hk.cut hd km hkm) (hv.cut hd vm hvm) (MR.cut hd t tm)
theorem ER.cut (hd : ∀ k p, φm k = some p → k < N) : ∀ {l : List (V × V)} {l' lm : List MapEntry}, ER η φ l l' → ER η φm l lm → ER η (φ.cut N) l l'
  | _, _, _, .nil, _ => .nil
  | _, _, _, .cons k v e l l' hk hv t, .cons _ _ em _ lm hkm hvm tm => .cons k v e l l' (hk.cut hd em.key hkm) (hv.cut hd em.val hvm) (ER.cut hd t tm)
theorem OR.cut (hd : ∀ k p, φm k = some p → k < N) {o : O} {s sm : Nat × Nat} {ob obm : Option Obj} (h : OR η φ o s ob) (hm : OR η φm o sm obm) : OR η (φ.cut N) o s ob := by
  cases o with
  | cells cs e p =>
    obtain ⟨pre, mid, post, t, h1, h2, h3, h4⟩ := h
    obtain ⟨_, midm, _, _, _, _, h3m, _⟩ := hm
    exact ⟨pre, mid, post, t, h1, h2, h3.cut hd h3m, h4⟩
  | map es c =>
    obtain ⟨es', h1, h2⟩ := h
    obtain ⟨esm, _, h2m⟩ := hm
    exact ⟨es', h1, h2.cut hd h2m⟩
  | dead => trivial
  | iter m since seen last =>
    obtain ⟨h0, m', h1, h2⟩ := h
    obtain ⟨_, mm, _, h2m⟩ := hm
    refine ⟨h0, m', h1, ?_⟩
    cases m with
    | none => cases m' with
      | none => trivial
      | some b => exact h2.elim
    | some k =>
      cases m' with
      | none => exact h2.elim
      | some b =>
        obtain ⟨s1, h2⟩ := h2
        cases mm with
        | none => exact h2m.elim
        | some bm =>
          obtain ⟨s2, h2m⟩ := h2m
          exact ⟨s1, cut_of (hd _ _ h2m) h2⟩
  | pmap es =>
    obtain ⟨es', c, l, h1, h2, h3, h4⟩ := h
    obtain ⟨_, _, lm, _, _, h3m, _⟩ := hm
    exact ⟨es', c, l, h1, h2, h3.cut hd h3m, h4⟩
theorem DRs.cut (hd : ∀ k p, φm k = some p → k < N) : ∀ {l : List Dfr} {l' lm : List Deferred}, DRs η φ l l' → DRs η φm l lm → DRs η (φ.cut N) l l'
  | _, _, _, .nil, _ => .nil
  | _, _, _, .cons d D l l' ⟨cap, h1, h2⟩ t, .cons _ Dm _ lm ⟨capm, _, h2m⟩ tm => .cons d D l l' ⟨cap, h1, h2.cut hd h2m⟩ (DRs.cut hd t tm)

/-! ### Temporaries that are forgotten -/
def resetR (D : List Tmp) (a : Regs) : Regs := D.foldl (fun a t => a.set t undefV) a
def resetA (D : List Tmp) (A : Act) : Act := D.foldl (fun A t => A.put (some t) undef) A
theorem resetR_size : ∀ (D : List Tmp) (a : Regs), (resetR D a).size = a.size
  | [], a => rfl
  | t :: D, a => by show (resetR D (a.set t undefV)).size = _; rw [resetR_size, Regs.size_set]
theorem resetR_defs : ∀ (D : List Tmp) (a : Regs), (resetR D a).defs = a.defs
  | [], a => rfl
  | t :: D, a => by show (resetR D (a.set t undefV)).defs = _; rw [resetR_defs, Regs.defs_set]
theorem resetR_get : ∀ (D : List Tmp) (a : Regs), a.size ≤ 400 → ∀ t, (resetR D a).get t = if t ∈ D ∧ t < a.size then undefV else a.get t
  | [], a, _, t => by simp [resetR]
  | u :: D, a, h, t => by
    show (resetR D (a.set u undefV)).get t = _
    rw [resetR_get D _ (by rw [Regs.size_set]; exact h), Regs.size_set, Regs.get_set _ h]
    by_cases h1 : t ∈ D
    · by_cases h2 : t < a.size
      · simp [h1, h2]
      · have : ¬ (u < a.size ∧ t = u) := fun e => h2 (e.2 ▸ e.1)
        simp [h2, this]
    · by_cases h3 : t = u
      · subst h3; by_cases h2 : t < a.size <;> simp [h1, h2]
      · simp [h1, h3]
theorem resetA_size : ∀ (D : List Tmp) (A : Act), (resetA D A).tmps.size = A.tmps.size
  | [], A => rfl
  | t :: D, A => by show (resetA D (A.put (some t) undef)).tmps.size = _; rw [resetA_size]; simp [Act.put]
theorem resetA_defers : ∀ (D : List Tmp) (A : Act), (resetA D A).defers = A.defers
  | [], A => rfl
  | t :: D, A => by show (resetA D (A.put (some t) undef)).defers = _; rw [resetA_defers]; rfl
theorem resetA_get : ∀ (D : List Tmp) (A : Act) (t : Nat), (resetA D A).tmps.getD t undef = if t ∈ D ∧ t < A.tmps.size then undef else A.tmps.getD t undef
  | [], A, t => by simp [resetA]
  | u :: D, A, t => by
    show (resetA D (A.put (some u) undef)).tmps.getD t undef = _
    rw [resetA_get D]
    have h1 : (A.put (some u) undef).tmps.size = A.tmps.size := by simp [Act.put]
    have h2 : (A.put (some u) undef).tmps.getD t undef = if u < A.tmps.size ∧ t = u then undef else A.tmps.getD t undef := by
      simp only [Act.put, Array.getD_eq_getD_getElem?]
      by_cases e : t = u
      · subst e
        by_cases h : t < A.tmps.size
        · simp [h]
        · simp [h]
      · rw [Array.getElem?_setIfInBounds_ne (fun q => e q.symm)]; simp [e]
    rw [h1, h2]
    by_cases h1 : t ∈ D
    · by_cases h2 : t < A.tmps.size
      · simp [h1, h2]
      · have : ¬ (u < A.tmps.size ∧ t = u) := fun e => h2 (e.2 ▸ e.1)
        simp [h2, this]
    · by_cases h3 : t = u
      · subst h3; by_cases h2 : t < A.tmps.size <;> simp [h1, h2]
      · simp [h1, h3]
theorem resetA_eval {D : List Tmp} {A : Act} {x : Operand} (h : ∀ t ∈ D, x ≠ .tmp t) : (resetA D A).eval x = A.eval x := by
  cases x with
  | tmp t =>
    have : t ∉ D := fun e => h t e rfl
    simp only [Act.eval]
    have := resetA_get D A t
    rw [if_neg (fun e => by rename_i q; exact q e.1)] at this
    simpa [Array.getD_eq_getD_getElem?] using this
  | _ => rfl
theorem resetR_evalO {D : List Tmp} {a : Regs} (hs : a.size ≤ 400) {x : Operand} (h : ∀ t ∈ D, x ≠ .tmp t) : evalO (resetR D a) x = evalO a x := by
  cases x with
  | tmp t =>
    have q : t ∉ D := fun e => h t e rfl
    simp only [evalO]
    rw [resetR_get D a hs, if_neg (fun e => q e.1)]
  | _ => rfl
end
end
end Go.Proofs.YtbobnbndbgpanaaGreat.Sx
