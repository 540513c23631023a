/- Maps of numbers to bools in the world: what they hold, whatever the order; laid anew, gone over. -/
import Derived.Test.YtbobnbndbgpanaaGreatProg
import Derived.Test.YtbobnbndbgpanaaGreatSzIter
import Derived.Maps.RangeRun
namespace Go.Proofs.YtbobnbndbgpanaaGreat.W
open Go Go.Proofs.YtbobnbndbgpanaaGreat.Sx
set_option linter.unusedVariables false
set_option linter.unusedSimpArgs false
def get : List (Int × Bool) → Int → Option Bool
  | [], _ => none
  | p :: l, j => if p.1 = j then some p.2 else get l j
def keysN (L : List (Int × Bool)) : Prop := (L.map Prod.fst).Nodup
def setL (k : Int) (v : Bool) : List (Int × Bool) → List (Int × Bool)
  | [] => [(k, v)]
  | p :: l => if p.1 = k then (k, v) :: l else p :: setL k v l
theorem get_setL (k : Int) (v : Bool) (j : Int) : ∀ L, get (setL k v L) j = if k = j then some v else get L j
  | [] => by simp [setL, get]
  | p :: l => by
    simp only [setL]
    by_cases h : p.1 = k
    · rw [if_pos h]
      by_cases h2 : k = j
      · simp [get, h2]
      · have : p.1 ≠ j := by rw [h]; exact h2
        simp [get, h2, this]
    · rw [if_neg h]
      by_cases h2 : p.1 = j
      · have : k ≠ j := by rintro rfl; exact h h2
        simp [get, h2, this]
      · simp [get, h2, get_setL k v j l]
theorem get_none : ∀ {L : List (Int × Bool)} {k : Int}, get L k = none ↔ k ∉ L.map Prod.fst
  | [], k => by simp [get]
  | p :: l, k => by
    simp only [get, List.map_cons, List.mem_cons, not_or]
    by_cases h : p.1 = k
    · simp [h]
    · rw [if_neg h, get_none]
      constructor
      · intro q; exact ⟨fun e => h e.symm, q⟩
      · intro q; exact q.2
theorem keys_setL (k : Int) (v : Bool) : ∀ {L : List (Int × Bool)}, keysN L → keysN (setL k v L)
  | [], h => by simp [setL, keysN]
  | p :: l, h => by
    unfold keysN at h ⊢
    simp only [List.map_cons, List.nodup_cons] at h
    simp only [setL]
    by_cases q : p.1 = k
    · rw [if_pos q]
      simp only [List.map_cons, List.nodup_cons]
      exact ⟨by rw [← q]; exact h.1, h.2⟩
    · rw [if_neg q]
      simp only [List.map_cons, List.nodup_cons]
      refine ⟨?_, keys_setL k v h.2⟩
      rw [← get_none, get_setL, if_neg (fun e => q e.symm), get_none]
      exact h.1
theorem mem_get : ∀ {L : List (Int × Bool)}, keysN L → ∀ (p : Int × Bool), p ∈ L ↔ get L p.1 = some p.2
  | [], h, p => by simp [get]
  | q :: l, h, p => by
    unfold keysN at h
    simp only [List.map_cons, List.nodup_cons] at h
    simp only [List.mem_cons, get]
    by_cases e : q.1 = p.1
    · rw [if_pos e]
      constructor
      · rintro (rfl | hm)
        · rfl
        · exact absurd (List.mem_map.2 ⟨p, hm, e.symm⟩) h.1
      · intro hq
        injection hq with hq
        exact .inl (Prod.ext e.symm hq.symm)
    · rw [if_neg e, ← mem_get h.2 p]
      constructor
      · rintro (rfl | hm)
        · exact absurd rfl e
        · exact hm
      · exact .inr
theorem nodup_of {L : List (Int × Bool)} (h : keysN L) : L.Nodup := (List.pairwise_map.1 h).imp (fun h e => h (by rw [e]))
theorem perm_get {L M : List (Int × Bool)} (hL : keysN L) (hM : keysN M) (h : ∀ j, get L j = get M j) : L.Perm M :=
  (List.perm_ext_iff_of_nodup (nodup_of hL) (nodup_of hM)).2 fun p => by rw [mem_get hL, mem_get hM, h]
theorem get_perm {L M : List (Int × Bool)} (hL : keysN L) (h : L.Perm M) : keysN M ∧ ∀ j, get L j = get M j := by
  have hM : keysN M := (h.map Prod.fst).nodup_iff.1 hL
  refine ⟨hM, fun j => ?_⟩
  cases e : get L j with
  | some v =>
    have := (mem_get hL (j, v)).2 e
    exact ((mem_get hM (j, v)).1 (h.mem_iff.1 this)).symm
  | none =>
    cases e2 : get M j with
    | none => rfl
    | some v =>
      have := (mem_get hM (j, v)).2 e2
      rw [(mem_get hL (j, v)).1 (h.mem_iff.2 this)] at e
      cases e
/-- All of a list laid over another one, each with what was there. -/
def orAll : List (Int × Bool) → List (Int × Bool) → List (Int × Bool)
  | L, [] => L
  | L, p :: d => orAll (setL p.1 ((get L p.1).getD false || p.2) L) d
theorem orAll_keys : ∀ {d L : List (Int × Bool)}, keysN L → keysN (orAll L d)
  | [], L, h => h
  | p :: d, L, h => orAll_keys (d := d) (keys_setL _ _ h)
theorem orAll_snoc : ∀ (d L : List (Int × Bool)) (p : Int × Bool), orAll L (d ++ [p]) = setL p.1 ((get (orAll L d) p.1).getD false || p.2) (orAll L d)
  | [], L, p => rfl
  | q :: d, L, p => by simp only [List.cons_append, orAll]; exact orAll_snoc d _ p
theorem get_orAll : ∀ {d L : List (Int × Bool)}, keysN d → ∀ j, get (orAll L d) j = match get d j with
    | some v => some ((get L j).getD false || v)
    | none => get L j
  | [], L, h, j => rfl
  | p :: d, L, h, j => by
    unfold keysN at h
    simp only [List.map_cons, List.nodup_cons] at h
    simp only [orAll, get_orAll h.2 j, get_setL, get]
    by_cases e : p.1 = j
    · subst e
      have : get d p.1 = none := get_none.2 h.1
      simp [this]
    · simp [e]
theorem orAll_perm {L d d2 : List (Int × Bool)} (hL : keysN L) (hd : keysN d) (h : d.Perm d2) : (orAll L d).Perm (orAll L d2) := by
  obtain ⟨h1, h2⟩ := get_perm hd h
  exact perm_get (orAll_keys hL) (orAll_keys hL) fun j => by rw [get_orAll hd, get_orAll h1, h2]
theorem orAll_nil {d : List (Int × Bool)} (hd : keysN d) : (orAll [] d).Perm d :=
  perm_get (orAll_keys (by simp [keysN])) hd fun j => by
    rw [get_orAll hd]
    cases get d j <;> simp [get]
end Go.Proofs.YtbobnbndbgpanaaGreat.W
