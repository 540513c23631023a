/- What a type's words are made of (plain law of ferruleref05.words). -/
import Derived.Test.YtioediibbgklcaaTyFi
namespace Go.Proofs.Ytioediibbgklcaa.W
open Go Go.RowKit Go.Proofs
set_option linter.unusedVariables false
set_option linter.unusedSimpArgs false
theorem sum_small {its : List It} {f : Nat} : ∀ (ts : List Ty) (l : Nat) (a0 : Am) (l' : Nat) (b : Am), l ≤ 512 → sumS (addS its f) ts l a0 = some (l', b) → ∀ t ∈ ts, ∃ a, measureS its t = some a ∧ a.parts + a0.parts ≤ b.parts
  | [], l, a0, l', b, _, e, t, ht => by simp at ht
  | u :: ts, l, a0, l', b, hl, e, t, ht => by
    simp only [sumS] at e
    cases hc : addS its f l u with
    | none => rw [hc] at e; simp at e
    | some p =>
      obtain ⟨l1, c⟩ := p
      rw [hc] at e
      simp only at e
      obtain ⟨hm, _⟩ := measure_of hc hl
      have hp := addS_fair its f _ _ _ _ hc
      have hq := (sumS_fair (addS_fair its f) ts _ _ _ _ e).2.2
      simp only [Am.plus] at hq
      rcases List.mem_cons.1 ht with rfl | h
      · exact ⟨c, hm, by omega⟩
      · obtain ⟨a, h1, h2⟩ := sum_small ts l1 (a0.plus c) l' b (by omega) e t h
        simp only [Am.plus] at h2
        exact ⟨a, h1, by omega⟩
/-- The most of some variants' words. -/
def mostW (its : List It) : List (List Ty) → Nat → Nat
  | [], m => m
  | v :: vs, m => mostW its vs (max m (sumW its v))
theorem mostW_ge (its : List It) : ∀ (vs : List (List Ty)) (m : Nat), m ≤ mostW its vs m
  | [], m => Nat.le_refl _
  | v :: vs, m => Nat.le_trans (Nat.le_max_left _ _) (mostW_ge its vs _)
theorem mostW_snoc (its : List It) : ∀ (vs : List (List Ty)) (v : List Ty) (m : Nat), mostW its (vs ++ [v]) m = max (mostW its vs m) (sumW its v)
  | [], v, m => rfl
  | u :: vs, v, m => mostW_snoc its vs v _
theorem mostW_append (its : List It) : ∀ (vs us : List (List Ty)) (m : Nat), mostW its (vs ++ us) m = mostW its us (mostW its vs m)
  | [], us, m => rfl
  | u :: vs, us, m => mostW_append its vs us _
theorem enum_small {its : List It} {f : Nat} : ∀ (vs : List (List Ty)) (l mo : Nat) (a0 : Am) (l' mo' : Nat) (b : Am), l ≤ 512 → enumS (addS its f) vs l mo a0 = some (l', mo', b) →
    (∀ v ∈ vs, ∀ t ∈ v, ∃ a, measureS its t = some a ∧ a.parts + a0.parts ≤ b.parts) ∧ mo' = mostW its vs mo
  | [], l, mo, a0, l', mo', b, _, e => by
    simp only [enumS, Option.some.injEq, Prod.mk.injEq] at e
    obtain ⟨_, rfl, rfl⟩ := e
    exact ⟨by simp, rfl⟩
  | v :: vs, l, mo, a0, l', mo', b, hl, e => by
    simp only [enumS] at e
    cases hc : sumS (addS its f) v l ⟨0, 0, false⟩ with
    | none => rw [hc] at e; simp at e
    | some p =>
      obtain ⟨l1, c⟩ := p
      rw [hc] at e
      simp only at e
      have hf := addS_fair its f
      have h1 := sum_small v l _ l1 c hl hc
      have h2 := sumS_fair hf v _ _ _ _ hc
      have h3 := (sum_parts v l _ l1 c hl hc).2.1
      have h4 := (enumS_fair hf vs _ _ _ _ _ _ e).2.1
      simp only [Am.plus] at h2 h3 h4
      obtain ⟨q1, q2⟩ := enum_small vs l1 _ (a0.plus c) l' mo' b (by omega) e
      refine ⟨fun u hu t ht => ?_, ?_⟩
      · rcases List.mem_cons.1 hu with rfl | hu
        · obtain ⟨a, h5, h6⟩ := h1 t ht
          simp only at h6
          exact ⟨a, h5, by omega⟩
        · obtain ⟨a, h5, h6⟩ := q1 u hu t ht
          simp only [Am.plus] at h6
          exact ⟨a, h5, by omega⟩
      · rw [q2, mostW, h3]
        simp
theorem measure_bound {its : List It} {t : Ty} {a : Am} (h : measureS its t = some a) : 1 ≤ a.parts ∧ a.parts ≤ 512 ∧ a.words ≤ 1024 := by
  obtain ⟨h1, h2⟩ := counted_of h
  have h3 := addS_fair its _ _ _ _ _ (h2 513 512 (by omega) h1)
  exact ⟨h3.2.2, h1, by omega⟩
theorem measure_add {its : List It} {t : Ty} {a : Am} (h : measureS its t = some a) : ∃ l', addS its 513 512 t = some (l', a) := by
  unfold measureS at h
  cases hc : addS its 513 512 t with
  | none => rw [hc] at h; simp at h
  | some p => rw [hc] at h; simp at h; subst h; exact ⟨p.1, rfl⟩
theorem measure_struct {its : List It} {t : Ty} {a : Am} {it : It} (h : measureS its t = some a) (h9 : t.kind = 9) (hi : itemOf its t = some it) (hk : it.kind = 2) :
    (∀ p ∈ it.ps, ∃ b, measureS its p.2 = some b ∧ b.parts < a.parts) ∧ a.words = sumW its (it.ps.map Prod.snd) := by
  obtain ⟨l', hc⟩ := measure_add h
  simp only [addS, h9, hi, hk] at hc
  simp at hc
  have h1 := sum_small _ _ _ _ _ (by omega) hc
  have h2 := (sum_parts _ _ _ _ _ (by omega) hc).2.1
  simp only [Nat.zero_add] at h2
  refine ⟨fun p hp => ?_, h2⟩
  obtain ⟨b, q1, q2⟩ := h1 p.2 (List.mem_map_of_mem hp)
  simp only at q2
  exact ⟨b, q1, by omega⟩
theorem measure_enum {its : List It} {t : Ty} {a : Am} {it : It} (h : measureS its t = some a) (h9 : t.kind = 9) (hi : itemOf its t = some it) (hk : it.kind ≠ 2) :
    (∀ v ∈ it.vs, ∀ u ∈ v.2, ∃ b, measureS its u = some b ∧ b.parts < a.parts) ∧ a.words = mostW its (it.vs.map Prod.snd) 0 + 1 := by
  obtain ⟨l', hc⟩ := measure_add h
  simp only [addS, h9, hi, if_neg hk] at hc
  simp at hc
  cases he : enumS (addS its 512) (it.vs.map Prod.snd) 511 0 ⟨1, 0, false⟩ with
  | none => rw [he] at hc; simp at hc
  | some p =>
    obtain ⟨l1, mo, b⟩ := p
    rw [he] at hc
    simp at hc
    obtain ⟨_, rfl⟩ := hc
    obtain ⟨q1, q2⟩ := enum_small _ _ _ _ _ _ _ (by omega) he
    refine ⟨fun v hv u hu => ?_, by simp [q2]⟩
    obtain ⟨c, q3, q4⟩ := q1 v.2 (List.mem_map_of_mem hv) u hu
    simp only at q4
    exact ⟨c, q3, by simp only; omega⟩
theorem measure_array {its : List It} {t : Ty} {a : Am} (h : measureS its t = some a) (h10 : t.kind = 10) : ∃ e r, t.el = e :: r ∧ (1 ≤ t.n → ∃ b, measureS its e = some b ∧ b.parts < a.parts ∧ t.n * (b.words : Int) = (a.words : Int)) ∧ (t.n < 1 → a.words = 0) := by
  obtain ⟨l', hc⟩ := measure_add h
  simp only [addS, h10] at hc
  simp at hc
  cases he : t.el with
  | nil => rw [he] at hc; simp at hc
  | cons e r =>
    rw [he] at hc
    simp only at hc
    have h1 := sum_small _ _ _ _ _ (by omega) hc
    have h2 := (sum_parts _ _ _ _ _ (by omega) hc).2.1
    simp only [Nat.zero_add] at h2
    refine ⟨e, r, rfl, fun hn => ?_, fun hn => ?_⟩
    · obtain ⟨b, q1, q2⟩ := h1 e (List.mem_replicate.2 ⟨by omega, rfl⟩)
      simp only at q2
      refine ⟨b, q1, by omega, ?_⟩
      have hs : sumW its (List.replicate t.n.toNat e) = t.n.toNat * b.words := by simp [sumW, q1]
      rw [h2, hs]
      rw [Int.natCast_mul, Int.toNat_of_nonneg (by omega)]
    · rw [h2, show t.n.toNat = 0 by omega]
      rfl
theorem measure_plain {its : List It} {t : Ty} {a : Am} (h : measureS its t = some a) (h1 : t.kind ≠ 1) (h9 : t.kind ≠ 9) (h10 : t.kind ≠ 10) : a.words = 1 := by
  obtain ⟨l', hc⟩ := measure_add h
  simp only [addS, if_neg h1, if_neg h9] at hc
  split at hc
  · simp at hc; rw [← hc.2]
  · split at hc
    · cases hc
    · split at hc
      · cases hc
      · first
          | (rw [if_neg h10] at hc; simp at hc; rw [← hc.2])
          | (simp at hc; rw [← hc.2])
theorem measure_unit {its : List It} {t : Ty} {a : Am} (h : measureS its t = some a) (h1 : t.kind = 1) : a.words = 0 := by
  obtain ⟨l', hc⟩ := measure_add h
  simp only [addS, if_pos h1] at hc
  simp at hc
  rw [← hc.2]
theorem sumW_snoc {its : List It} (ts : List Ty) (j : Nat) (t : Ty) (a : Am) (h : ts[j]? = some t) (hm : measureS its t = some a) : sumW its (ts.take (j + 1)) = sumW its (ts.take j) + a.words := by
  unfold sumW
  rw [List.take_add_one, h]
  simp [hm]
theorem sumW_take (its : List It) (ts : List Ty) (j : Nat) : sumW its (ts.take j) ≤ sumW its ts := by
  have h : sumW its ts = sumW its (ts.take j) + sumW its (ts.drop j) := by
    unfold sumW
    rw [← List.sum_append, ← List.map_append, List.take_append_drop]
  omega
theorem mostW_take (its : List It) (vs : List (List Ty)) (j : Nat) : mostW its (vs.take j) 0 ≤ mostW its vs 0 := by
  have h := mostW_append its (vs.take j) (vs.drop j) 0
  rw [List.take_append_drop] at h
  rw [h]
  exact mostW_ge _ _ _
theorem mostW_step (its : List It) (vs : List (List Ty)) (j : Nat) (v : List Ty) (h : vs[j]? = some v) : mostW its (vs.take (j + 1)) 0 = max (mostW its (vs.take j) 0) (sumW its v) := by
  rw [List.take_add_one, h]
  exact mostW_snoc _ _ _ _
end Go.Proofs.Ytioediibbgklcaa.W
