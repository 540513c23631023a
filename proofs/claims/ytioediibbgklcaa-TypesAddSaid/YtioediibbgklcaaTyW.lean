/- What the document's look tells (lookS), and that it is what is counted (addS). -/
import Derived.Test.YtioediibbgklcaaTyV
namespace Go.Proofs.Ytioediibbgklcaa.W
open Go Go.RowKit Go.Proofs
set_option linter.unusedVariables false
set_option linter.unusedSimpArgs false
/-- A type's parts, as the document tells them; none: nobody knows it. -/
def partsS (its : List It) (t : Ty) : Option (List Ty) :=
  if 1 ≤ t.kind ∧ t.kind ≤ 8 then some []
  else if t.kind = 9 then (match itemOf its t with
    | none => none
    | some it => if it.kind = 2 then some (it.ps.map Prod.snd) else some (it.vs.flatMap Prod.snd))
  else if t.kind < 10 ∨ 13 < t.kind then none
  else match t.el with
    | [] => none
    | e :: _ => if t.kind = 10 then some (List.replicate (min t.n.toNat 512) e) else some []
/-- What is left of the budget when a type is looked through, and whether it moves; none: it ran out, or a part is not known. -/
abbrev Looker := Ty → Nat → Option (Nat × Bool)
def lookL (look : Looker) : List Ty → Nat → Bool → Option (Nat × Bool)
  | [], b, m => some (b, m)
  | t :: ts, b, m => match look t b with
    | none => none
    | some (b', m') => lookL look ts b' (m && m')
def lookS (its : List It) : Nat → Looker
  | 0, _, _ => none
  | _ + 1, _, 0 => none
  | f + 1, t, b + 1 => match partsS its t with
    | none => none
    | some ts => lookL (lookS its f) ts b (decide (t.kind ≠ 11) && decide (t.kind ≠ 13))
theorem lookL_ext {l1 l2 : Looker} : ∀ (ts : List Ty) (b : Nat) (m : Bool), (∀ t ∈ ts, ∀ b, l1 t b = l2 t b) → lookL l1 ts b m = lookL l2 ts b m
  | [], _, _, _ => rfl
  | t :: ts, b, m, h => by
    simp only [lookL, h t (by simp) b]
    cases l2 t b with
    | none => rfl
    | some p => exact lookL_ext ts p.1 _ (fun t ht => h t (by simp [ht]))
theorem lookL_and {look : Looker} : ∀ (ts : List Ty) (b : Nat) (m : Bool), lookL look ts b m = (lookL look ts b true).map fun r => (r.1, m && r.2)
  | [], b, m => by simp [lookL]
  | t :: ts, b, m => by
    simp only [lookL]
    cases look t b with
    | none => rfl
    | some p =>
      simp only
      rw [lookL_and ts p.1 (m && p.2), lookL_and ts p.1 (true && p.2)]
      cases lookL look ts p.1 true with
      | none => rfl
      | some q => simp [Bool.and_assoc]
theorem lookL_append {look : Looker} : ∀ (xs ys : List Ty) (b : Nat) (m : Bool), lookL look (xs ++ ys) b m = (lookL look xs b m).bind fun r => lookL look ys r.1 r.2
  | [], ys, b, m => rfl
  | t :: xs, ys, b, m => by
    simp only [List.cons_append, lookL]
    cases look t b with
    | none => rfl
    | some p => exact lookL_append xs ys p.1 _
/-- One is the other. -/
def Meets (add : Adder) (look : Looker) : Prop := ∀ t l, l ≤ 512 → (add l t).map (fun r => (r.1, !r.2.moves)) = look t l
theorem sum_look {add : Adder} {look : Looker} (hf : Fair add) (h : Meets add look) : ∀ (ts : List Ty) (l : Nat) (a : Am), l ≤ 512 → (sumS add ts l a).map (fun r => (r.1, !r.2.moves)) = lookL look ts l (!a.moves)
  | [], l, a, _ => rfl
  | t :: ts, l, a, hl => by
    simp only [sumS, lookL, ← h t l hl]
    cases hc : add l t with
    | none => rfl
    | some p =>
      have hp := hf l t p.1 p.2 hc
      simp only [Option.map_some]
      rw [sum_look hf h ts p.1 (a.plus p.2) (by omega)]
      simp [Am.plus]
theorem enum_look {add : Adder} {look : Looker} (hf : Fair add) (h : Meets add look) : ∀ (vs : List (List Ty)) (l mo : Nat) (a : Am), l ≤ 512 → (enumS add vs l mo a).map (fun r => (r.1, !r.2.2.moves)) = lookL look vs.flatten l (!a.moves)
  | [], l, mo, a, _ => rfl
  | v :: vs, l, mo, a, hl => by
    have hs := sum_look hf h v l ⟨0, 0, false⟩ hl
    simp only [enumS, List.flatten_cons]
    rw [lookL_append, lookL_and v l (!a.moves)]
    simp only [Bool.not_false] at hs
    rw [← hs]
    cases hc : sumS add v l ⟨0, 0, false⟩ with
    | none => rfl
    | some p =>
      have hp := sumS_fair hf v l _ p.1 p.2 hc
      simp only at hp
      simp only [Option.map_some, Option.bind_some]
      rw [enum_look hf h vs p.1 _ (a.plus p.2) (by omega)]
      simp [Am.plus]
theorem sum_over {add : Adder} (hf : Fair add) (ts : List Ty) (l : Nat) (a : Am) (h : l < ts.length) : sumS add ts l a = none := by
  cases hc : sumS add ts l a with
  | none => rfl
  | some p =>
    have := sumS_fair hf ts l a p.1 p.2 hc
    omega
theorem add_look (its : List It) : ∀ f, Meets (addS its f) (lookS its f)
  | 0, t, l, _ => by simp [addS, lookS]
  | f + 1, t, 0, _ => by simp [addS, lookS]
  | f + 1, t, l + 1, hl => by
    have ih := add_look its f
    have hf := addS_fair its f
    simp only [addS, lookS, partsS]
    by_cases h1 : t.kind = 1
    · simp [h1, lookL]
    · by_cases h2 : 2 ≤ t.kind ∧ t.kind ≤ 8
      · rw [if_neg h1, if_pos h2, if_pos (show 1 ≤ t.kind ∧ t.kind ≤ 8 by omega)]
        have h11 : t.kind ≠ 11 := by omega
        have h13 : t.kind ≠ 13 := by omega
        simp [lookL, h11, h13]
      · rw [if_neg h1, if_neg h2, if_neg (show ¬ (1 ≤ t.kind ∧ t.kind ≤ 8) by omega)]
        by_cases h9 : t.kind = 9
        · rw [if_pos h9, if_pos h9]
          have h11 : t.kind ≠ 11 := by omega
          have h13 : t.kind ≠ 13 := by omega
          have hd : (decide (t.kind ≠ 11) && decide (t.kind ≠ 13)) = true := by simp [h11, h13]
          rw [hd]
          cases itemOf its t with
          | none => rfl
          | some it =>
            by_cases hk : it.kind = 2
            · simp only [if_pos hk]
              rw [sum_look hf ih _ l _ (by omega)]
              rfl
            · simp only [if_neg hk]
              have he := enum_look hf ih (it.vs.map Prod.snd) l 0 ⟨1, 0, false⟩ (by omega)
              rw [List.flatMap_def]
              simp only [Bool.not_false] at he
              rw [← he]
              cases enumS (addS its f) (it.vs.map Prod.snd) l 0 ⟨1, 0, false⟩ with
              | none => rfl
              | some p => rfl
        · rw [if_neg h9, if_neg h9]
          by_cases h10 : t.kind < 10 ∨ 13 < t.kind
          · rw [if_pos h10, if_pos h10]; rfl
          · rw [if_neg h10, if_neg h10]
            cases t.el with
            | nil => rfl
            | cons e r =>
              by_cases ha : t.kind = 10
              · have h11 : t.kind ≠ 11 := by omega
                have h13 : t.kind ≠ 13 := by omega
                have hd : (decide (t.kind ≠ 11) && decide (t.kind ≠ 13)) = true := by simp [h11, h13]
                rw [hd]
                simp only [if_pos ha]
                by_cases hn : t.n.toNat ≤ 512
                · rw [Nat.min_eq_left hn, sum_look hf ih _ l _ (by omega)]
                  rfl
                · rw [Nat.min_eq_right (by omega), sum_over hf _ l _ (by rw [List.length_replicate]; omega)]
                  have hs := sum_look hf ih (List.replicate 512 e) l ⟨1, 0, false⟩ (by omega)
                  rw [sum_over hf _ l _ (by rw [List.length_replicate]; omega)] at hs
                  exact hs
              · simp only [if_neg ha, lookL, Option.map_some]
                congr 2
                by_cases h12 : t.kind = 12
                · simp [h12]
                · have : t.kind = 11 ∨ t.kind = 13 := by omega
                  rcases this with h | h <;> simp [h]
end Go.Proofs.Ytioediibbgklcaa.W
