/- What is counted of a type does not depend on the budget; arrays, structs and Boxes (plain law of TypesAdd). -/
import Derived.Test.YtioediibbgklcaaTyTw
namespace Go.Proofs.Ytioediibbgklcaa.W
open Go Go.RowKit Go.Proofs
set_option linter.unusedVariables false
set_option linter.unusedSimpArgs false
/-- Whatever may still come, the amount is the same. -/
def Steady (add : Adder) (adds : Nat → Adder) : Prop := ∀ l t l' a, add l t = some (l', a) → ∀ g m, a.parts ≤ g → a.parts ≤ m → adds g m t = some (m - a.parts, a)
theorem sum_steady {add : Adder} {adds : Nat → Adder} (hf : Fair add) (h : Steady add adds) : ∀ (ts : List Ty) (l : Nat) (a0 : Am) (l' : Nat) (b : Am), sumS add ts l a0 = some (l', b) → ∀ g m, b.parts ≤ a0.parts + g → b.parts ≤ a0.parts + m → sumS (adds g) ts m a0 = some (m + a0.parts - b.parts, b)
  | [], l, a0, l', b, e, g, m, _, _ => by
    simp only [sumS, Option.some.injEq, Prod.mk.injEq] at e ⊢
    obtain ⟨_, rfl⟩ := e
    exact ⟨by omega, rfl⟩
  | t :: ts, l, a0, l', b, e, g, m, hg, hm => by
    simp only [sumS] at e ⊢
    cases hc : add l t with
    | none => rw [hc] at e; simp at e
    | some p =>
      obtain ⟨l1, c⟩ := p
      rw [hc] at e
      simp only at e
      have hp := (sumS_fair hf ts _ _ _ _ e).2.2
      have hq := hf _ _ _ _ hc
      simp only [Am.plus] at hp
      rw [h l t l1 c hc g m (by omega) (by omega)]
      simp only
      rw [sum_steady hf h ts l1 (a0.plus c) l' b e g (m - c.parts) (by simp only [Am.plus]; omega) (by simp only [Am.plus]; omega)]
      simp only [Am.plus, Option.some.injEq, Prod.mk.injEq]
      exact ⟨by omega, trivial⟩
theorem enum_steady {add : Adder} {adds : Nat → Adder} (hf : Fair add) (h : Steady add adds) : ∀ (vs : List (List Ty)) (l mo : Nat) (a0 : Am) (l' mo' : Nat) (b : Am), enumS add vs l mo a0 = some (l', mo', b) → ∀ g m, b.parts ≤ a0.parts + g → b.parts ≤ a0.parts + m → enumS (adds g) vs m mo a0 = some (m + a0.parts - b.parts, mo', b)
  | [], l, mo, a0, l', mo', b, e, g, m, _, _ => by
    simp only [enumS, Option.some.injEq, Prod.mk.injEq] at e ⊢
    obtain ⟨_, rfl, rfl⟩ := e
    exact ⟨by omega, rfl, rfl⟩
  | v :: vs, l, mo, a0, l', mo', b, e, g, m, hg, hm => by
    simp only [enumS] at e ⊢
    cases hc : sumS add v l ⟨0, 0, false⟩ with
    | none => rw [hc] at e; simp at e
    | some p =>
      obtain ⟨l1, c⟩ := p
      rw [hc] at e
      simp only at e
      have hp := (enumS_fair hf vs _ _ _ _ _ _ e).2.1
      simp only [Am.plus] at hp
      rw [sum_steady hf h v l ⟨0, 0, false⟩ l1 c hc g m (by simp only; omega) (by simp only; omega)]
      simp only
      rw [enum_steady hf h vs l1 _ (a0.plus c) l' mo' b e g (m + 0 - c.parts) (by simp only [Am.plus]; omega) (by simp only [Am.plus]; omega)]
      simp only [Am.plus, Option.some.injEq, Prod.mk.injEq]
      exact ⟨by omega, trivial⟩
theorem add_steady (its : List It) : ∀ f, Steady (addS its f) (addS its)
  | 0, l, t, l', a, e => by simp [addS] at e
  | f + 1, 0, t, l', a, e => by simp [addS] at e
  | f + 1, l + 1, t, l', a, e => by
    have ih := add_steady its f
    have hf := addS_fair its f
    have hp := (addS_fair its (f + 1) _ _ _ _ e).2.2
    intro g m hg hm
    obtain ⟨g, rfl⟩ : ∃ k, g = k + 1 := ⟨g - 1, by omega⟩
    obtain ⟨m, rfl⟩ : ∃ k, m = k + 1 := ⟨m - 1, by omega⟩
    simp only [addS] at e ⊢
    by_cases h1 : t.kind = 1
    · simp only [if_pos h1, Option.some.injEq, Prod.mk.injEq] at e ⊢
      obtain ⟨_, rfl⟩ := e
      exact ⟨by simp, rfl⟩
    · rw [if_neg h1] at e ⊢
      by_cases h2 : 2 ≤ t.kind ∧ t.kind ≤ 8
      · simp only [if_pos h2, Option.some.injEq, Prod.mk.injEq] at e ⊢
        obtain ⟨_, rfl⟩ := e
        exact ⟨by simp, rfl⟩
      · rw [if_neg h2] at e ⊢
        by_cases h9 : t.kind = 9
        · rw [if_pos h9] at e ⊢
          cases hi : itemOf its t with
          | none => rw [hi] at e; simp at e
          | some it =>
            rw [hi] at e
            simp only at e ⊢
            by_cases hk : it.kind = 2
            · rw [if_pos hk] at e ⊢
              rw [sum_steady hf ih _ _ _ _ _ e g m (by simp only; omega) (by simp only; omega)]
            · rw [if_neg hk] at e ⊢
              cases hc : enumS (addS its f) (it.vs.map Prod.snd) l 0 ⟨1, 0, false⟩ with
              | none => rw [hc] at e; simp at e
              | some p =>
                obtain ⟨l1, mo, b⟩ := p
                rw [hc] at e
                simp only [Option.some.injEq, Prod.mk.injEq] at e
                obtain ⟨_, rfl⟩ := e
                simp only at hg hm hp
                rw [enum_steady hf ih _ _ _ _ _ _ _ hc g m (by simp only; omega) (by simp only; omega)]
        · rw [if_neg h9] at e ⊢
          by_cases h10 : t.kind < 10 ∨ 13 < t.kind
          · rw [if_pos h10] at e; simp at e
          · rw [if_neg h10] at e ⊢
            cases he : t.el with
            | nil => rw [he] at e; simp at e
            | cons x r =>
              rw [he] at e
              simp only at e ⊢
              by_cases ha : t.kind = 10
              · rw [if_pos ha] at e ⊢
                rw [sum_steady hf ih _ _ _ _ _ e g m (by simp only; omega) (by simp only; omega)]
              · rw [if_neg ha] at e ⊢
                simp only [Option.some.injEq, Prod.mk.injEq] at e ⊢
                obtain ⟨_, rfl⟩ := e
                exact ⟨by simp, rfl⟩
/-- What a part of a type is counted as, is what it is measured as. -/
theorem measure_of {its : List It} {f l l' : Nat} {t : Ty} {a : Am} (e : addS its f l t = some (l', a)) (hl : l ≤ 512) : measureS its t = some a ∧ a.parts ≤ l := by
  have hp := addS_fair its f _ _ _ _ e
  refine ⟨?_, by omega⟩
  unfold measureS
  rw [add_steady its f _ _ _ _ e 513 512 (by omega) (by omega)]
  rfl
theorem counted_of {its : List It} {t : Ty} {a : Am} (e : measureS its t = some a) : a.parts ≤ 512 ∧ ∀ g m, a.parts ≤ g → a.parts ≤ m → addS its g m t = some (m - a.parts, a) := by
  unfold measureS at e
  cases hc : addS its 513 512 t with
  | none => rw [hc] at e; simp at e
  | some p =>
    rw [hc] at e
    simp at e
    subst e
    have hp := addS_fair its 513 _ _ _ _ hc
    exact ⟨by omega, add_steady its 513 _ _ _ _ hc⟩
theorem le_sum : ∀ (l : List Nat) (x : Nat), x ∈ l → x ≤ l.sum
  | y :: l, x, h => by
    rcases List.mem_cons.1 h with rfl | h
    · simp
    · have := le_sum l x h
      simp
      omega
/-- The words of types that are known. -/
def sumW (its : List It) (ts : List Ty) : Nat := (ts.map fun t => ((measureS its t).map Am.words).getD 0).sum
theorem sum_parts {its : List It} {f : Nat} : ∀ (ts : List Ty) (l : Nat) (a0 : Am) (l' : Nat) (b : Am), l ≤ 512 → sumS (addS its f) ts l a0 = some (l', b) →
    (∀ t ∈ ts, ∃ a, measureS its t = some a) ∧ b.words = a0.words + sumW its ts ∧ b.moves = (a0.moves || ts.any fun t => !copyS its t)
  | [], l, a0, l', b, _, e => by
    simp only [sumS, Option.some.injEq, Prod.mk.injEq] at e
    obtain ⟨_, rfl⟩ := e
    exact ⟨by simp, by simp [sumW], by simp⟩
  | t :: ts, l, a0, l', b, hl, e => by
    simp only [sumS] at e
    cases hc : addS its f l t with
    | none => rw [hc] at e; simp at e
    | some p =>
      obtain ⟨l1, c⟩ := p
      rw [hc] at e
      simp only at e
      obtain ⟨hm, _⟩ := measure_of hc hl
      have hp := addS_fair its f _ _ _ _ hc
      obtain ⟨q1, q2, q3⟩ := sum_parts ts l1 (a0.plus c) l' b (by omega) e
      refine ⟨fun u hu => ?_, ?_, ?_⟩
      · rcases List.mem_cons.1 hu with rfl | h
        · exact ⟨_, hm⟩
        · exact q1 u h
      · rw [q2]
        simp only [sumW, Am.plus, List.map_cons, List.sum_cons, hm, Option.map_some, Option.getD_some]
        omega
      · rw [q3]
        simp only [Am.plus, List.any_cons, copyS, hm, Bool.not_not, Bool.or_assoc]
theorem sum_rep {its : List It} {t : Ty} {a : Am} (e : measureS its t = some a) (g : Nat) (hg : a.parts ≤ g) : ∀ (n l : Nat) (a0 : Am), n * a.parts ≤ l → ∃ b, sumS (addS its g) (List.replicate n t) l a0 = some (l - n * a.parts, b) ∧ b.words = a0.words + n * a.words ∧ b.parts = a0.parts + n * a.parts
  | 0, l, a0, _ => ⟨a0, by simp [sumS], by simp, by simp⟩
  | n + 1, l, a0, h => by
    have h1 : (n + 1) * a.parts = n * a.parts + a.parts := Nat.succ_mul _ _
    have h2 : (n + 1) * a.words = n * a.words + a.words := Nat.succ_mul _ _
    obtain ⟨b, q1, q2, q3⟩ := sum_rep e g hg n (l - a.parts) (a0.plus a) (by omega)
    refine ⟨b, ?_, ?_, ?_⟩
    · simp only [List.replicate_succ, sumS, (counted_of e).2 g l hg (by omega), q1]
      congr 2
      omega
    · rw [q2, h2]; simp only [Am.plus]; omega
    · rw [q3, h1]; simp only [Am.plus]; omega
def arrT (n : Nat) (t : Ty) : Ty := .mk 10 ⟨#[]⟩ n [t]
def boxT (t : Ty) : Ty := .mk 11 ⟨#[]⟩ 0 [t]
def boolT : Ty := .mk 2 ⟨#[]⟩ 0 []
theorem measure_arr (its : List It) (n : Nat) (t : Ty) : measureS its (arrT n t) = (sumS (addS its 512) (List.replicate n t) 511 ⟨1, 0, false⟩).map Prod.snd := by
  unfold measureS
  simp [addS, arrT, Ty.kind, Ty.el, Ty.n]
theorem arr_words {its : List It} {n : Nat} {t : Ty} {b : Nat} (hn : 1 ≤ n) (h : wordsS its (arrT n t) = some b) : ∃ a, wordsS its t = some a ∧ b = n * a := by
  unfold wordsS at h
  cases hm : measureS its (arrT n t) with
  | none => rw [hm] at h; simp at h
  | some A =>
    rw [hm] at h
    simp only at h
    split at h
    · simp at h
    · rename_i hA
      simp only [Option.some.injEq] at h
      subst h
      rw [measure_arr] at hm
      cases hc : sumS (addS its 512) (List.replicate n t) 511 ⟨1, 0, false⟩ with
      | none => rw [hc] at hm; simp at hm
      | some p =>
        obtain ⟨l', B⟩ := p
        rw [hc] at hm
        simp only [Option.map_some, Option.some.injEq] at hm
        subst hm
        obtain ⟨q1, q2, _⟩ := sum_parts _ _ _ _ _ (by omega) hc
        obtain ⟨a, ha⟩ := q1 t (List.mem_replicate.2 ⟨by omega, rfl⟩)
        have hs : sumW its (List.replicate n t) = n * a.words := by simp [sumW, ha]
        have hle : 1 * a.words ≤ n * a.words := Nat.mul_le_mul hn (Nat.le_refl _)
        refine ⟨a.words, ?_, ?_⟩
        · unfold wordsS
          rw [ha]
          simp only
          rw [if_neg (by simp only at q2; omega)]
        · simp only at q2; omega
theorem arr_known {its : List It} {n : Nat} {t : Ty} {a : Nat} (ha : wordsS its t = some a) (hle : n * a ≤ 128) (h : wordsS its (arrT n t) = none) : measureS its (arrT n t) = none := by
  cases hm : measureS its (arrT n t) with
  | none => rfl
  | some A =>
    exfalso
    unfold wordsS at h ha
    rw [hm] at h
    simp only at h
    cases ht : measureS its t with
    | none => rw [ht] at ha; simp at ha
    | some B =>
      rw [ht] at ha
      simp only at ha
      have hB : B.words = a := by split at ha <;> simp at ha; exact ha
      rw [measure_arr] at hm
      cases hc : sumS (addS its 512) (List.replicate n t) 511 ⟨1, 0, false⟩ with
      | none => rw [hc] at hm; simp at hm
      | some p =>
        rw [hc] at hm
        simp only [Option.map_some, Option.some.injEq] at hm
        obtain ⟨q1, q2, _⟩ := sum_parts _ _ _ p.1 p.2 (by omega) hc
        have hs : sumW its (List.replicate n t) = n * B.words := by simp [sumW, ht]
        rw [hm, hs, hB] at q2
        split at h
        · simp only at q2; omega
        · simp at h
theorem box_words (its : List It) (t : Ty) : wordsS its (boxT t) = some 1 ∧ copyS its (boxT t) = false := by
  have h : measureS its (boxT t) = some ⟨1, 1, true⟩ := by unfold measureS; simp [addS, boxT, Ty.kind, Ty.el]
  unfold wordsS copyS
  rw [h]
  simp
theorem bool_words (its : List It) : wordsS its boolT = some 1 := by
  have h : measureS its boolT = some ⟨1, 1, false⟩ := by unfold measureS; simp [addS, boolT, Ty.kind, Ty.el]
  unfold wordsS
  rw [h]
  simp
/-- A struct of known words: all its fields have some, and they add up. -/
theorem struct_words {its : List It} {t : Ty} {a : Nat} {it : It} (h : wordsS its t = some a) (h9 : t.kind = 9) (hi : itemOf its t = some it) (hk : it.kind = 2) :
    (∀ p ∈ it.ps, ∃ w, wordsS its p.2 = some w) ∧ a = ((it.ps.map Prod.snd).map fun t => (wordsS its t).getD 0).sum ∧ copyS its t = (it.ps.map Prod.snd).all (copyS its) ∧ a ≤ 128 := by
  unfold wordsS at h
  cases hm : measureS its t with
  | none => rw [hm] at h; simp at h
  | some A =>
    rw [hm] at h
    simp only at h
    split at h
    · simp at h
    rename_i hA
    simp only [Option.some.injEq] at h
    subst h
    have hm' := hm
    unfold measureS at hm
    simp only [addS, h9, hi, hk] at hm
    simp at hm
    obtain ⟨l', hc⟩ := hm
    obtain ⟨q1, q2, q3⟩ := sum_parts _ _ _ _ _ (by omega) hc
    simp only [Nat.zero_add, Bool.false_or] at q2 q3
    have each : ∀ t ∈ it.ps.map Prod.snd, ∃ B, measureS its t = some B ∧ wordsS its t = some B.words := by
      intro u hu
      obtain ⟨B, hB⟩ := q1 u hu
      refine ⟨B, hB, ?_⟩
      unfold wordsS
      rw [hB]
      simp only
      rw [if_neg ?_]
      have : B.words ≤ sumW its (it.ps.map Prod.snd) := by
        refine le_sum _ _ ?_
        exact List.mem_map.2 ⟨u, hu, by rw [hB]; rfl⟩
      omega
    refine ⟨fun p hp => ?_, ?_, ?_, by omega⟩
    · obtain ⟨B, _, h⟩ := each p.2 (List.mem_map_of_mem hp)
      exact ⟨_, h⟩
    · rw [q2]
      unfold sumW
      congr 1
      refine List.map_congr_left fun u hu => ?_
      obtain ⟨B, h1, h2⟩ := each u hu
      rw [h1, h2]
      rfl
    · unfold copyS at *
      rw [hm']
      simp only [q3]
      rw [List.all_eq_not_any_not]
end Go.Proofs.Ytioediibbgklcaa.W
