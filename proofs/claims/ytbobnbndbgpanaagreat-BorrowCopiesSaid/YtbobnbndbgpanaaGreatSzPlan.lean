/- Regions whose order is open: which operation waits for which, and a check of one order. -/
import Derived.Test.YtbobnbndbgpanaaGreatSzStep
import Derived.Orders
namespace Go.Proofs.YtbobnbndbgpanaaGreat.Sx
open Go
set_option linter.unusedVariables false
set_option linter.unusedSimpArgs false
noncomputable section

def isEff (o : Oper) : Bool :=
  match kindOf o with
  | .other => true
  | _ => false
def maskOf (ms : List Nat) (o : Oper) : Nat :=
  o.after.toList.foldl (fun m e => if Region.binds .any e then (m ||| (1 <<< e.on)) ||| ms.getD e.on 0 else m) 0
def masksGo : List Oper → List Nat → List Nat
  | [], ms => ms
  | o :: l, ms => masksGo l (ms ++ [maskOf ms o])
/-- Of each operation those that come before it in every order, as bits. -/
def masks (ops : Array Oper) : List Nat := masksGo ops.toList []

section
variable {ops : Array Oper} {listed : Array Bool}
def Rdy (ops : Array Oper) (listed : Array Bool) (i : Nat) : Prop :=
  ∃ o, ops[i]? = some o ∧ ∀ e ∈ o.after, Region.binds .any e = true → listed.getD e.on false = true
def Down (ops : Array Oper) (listed : Array Bool) : Prop := ∀ i, listed.getD i false = true → Rdy ops listed i
def MGood (ops : Array Oper) (listed : Array Bool) (ms : List Nat) : Prop :=
  ∀ j b, (ms.getD j 0).testBit b = true → Rdy ops listed j → listed.getD b false = true
theorem bit_one (n b : Nat) : (1 <<< n).testBit b = true ↔ b = n := by
  rw [Nat.one_shiftLeft, Nat.testBit_two_pow]; simp [eq_comm]
theorem maskOf_ok {ms : List Nat} {o : Oper} (hd : Down ops listed) (hm : MGood ops listed ms) (ho : ∀ e ∈ o.after, Region.binds .any e = true → listed.getD e.on false = true) {b : Nat}
    (h : (maskOf ms o).testBit b = true) : listed.getD b false = true := by
  unfold maskOf at h
  have key : ∀ (l : List Edge) (m : Nat), (∀ e ∈ l, Region.binds .any e = true → listed.getD e.on false = true) → (m.testBit b = true → listed.getD b false = true) →
      (l.foldl (fun m e => if Region.binds .any e then (m ||| (1 <<< e.on)) ||| ms.getD e.on 0 else m) m).testBit b = true → listed.getD b false = true := by
    intro l
    induction l with
    | nil => intro m _ hm h; exact hm h
    | cons e l ih =>
      intro m hl hmm h
      simp only [List.foldl_cons] at h
      refine ih _ (fun e' he' => hl e' (by simp [he'])) ?_ h
      split
      · rename_i hb
        have h1 := hl e (by simp) hb
        intro ht
        simp only [Nat.testBit_or, Bool.or_eq_true] at ht
        rcases ht with (ht | ht) | ht
        · exact hmm ht
        · rw [bit_one] at ht; subst ht; exact h1
        · exact hm e.on b ht (hd e.on h1)
      · exact hmm
  exact key o.after.toList 0 (fun e he => ho e (by simpa using he)) (by simp) h
theorem masksGo_ok (hd : Down ops listed) : ∀ (l : List Oper) (ms : List Nat), (∀ j o, l[j]? = some o → ops[ms.length + j]? = some o) → MGood ops listed ms → MGood ops listed (masksGo l ms)
  | [], ms, _, hm => hm
  | o :: l, ms, hl, hm => by
    unfold masksGo
    refine masksGo_ok hd l _ (fun j o' hj => ?_) ?_
    · have := hl (j + 1) o' (by simpa using hj)
      simpa [Nat.add_assoc, Nat.add_comm 1 j] using this
    · intro j b hb hr
      rw [List.getD_eq_getElem?_getD] at hb
      by_cases h1 : j < ms.length
      · rw [List.getElem?_append_left h1] at hb
        exact hm j b (by rw [List.getD_eq_getElem?_getD]; exact hb) hr
      · by_cases h2 : j = ms.length
        · subst h2
          rw [List.getElem?_append_right (Nat.le_refl _)] at hb
          simp at hb
          have h0 := hl 0 o (by simp)
          simp at h0
          obtain ⟨o', ho', ha⟩ := hr
          have : o' = o := by
            have e := Array.getElem?_eq_some_iff.1 ho'
            rw [h0] at ho'
            simpa using ho'.symm
          subst this
          exact maskOf_ok hd hm ha hb
        · rw [List.getElem?_eq_none (by simp; omega)] at hb
          simp at hb
/-- i comes before j in every order. -/
def befB (ms : List Nat) (i j : Nat) : Bool := (ms.getD j 0).testBit i
theorem befB_ok (hd : Down ops listed) {i j : Nat} (h : befB (masks ops) i j = true) (hr : Rdy ops listed j) : listed.getD i false = true :=
  masksGo_ok hd ops.toList [] (fun j o hj => by simpa using hj) (fun j b hb => by simp at hb) j i h hr
end

/-- Of two operations neither of which waits for the other. -/
def apartB (ops : Array Oper) (i j : Nat) : Bool :=
  match ops[i]?, ops[j]? with
  | some x, some y => x.apart ops y
  | _, _ => false
def effB (ops : Array Oper) (i : Nat) : Bool :=
  match ops[i]? with
  | some o => isEff o
  | none => false
def farB (ops : Array Oper) (ms : List Nat) (i j : Nat) : Bool := effB ops i && !befB ms i j
/-- An order is checked: behind those that each waits for; an effect behind all those ahead of it in every order; others do not bear on one another; and how many effects each may still come before. -/
def chk (ops : Array Oper) (ms : List Nat) : List Nat → List (Nat × Nat) → Bool
  | _, [] => true
  | prev, (i, b) :: rest =>
    (match ops[i]? with
      | some o => o.after.toList.all (fun e => !Region.binds .any e || prev.contains e.on) && !prev.contains i &&
          prev.all (fun p => befB ms p i || (!isEff o && apartB ops p i)) && (memless o || Nat.ble (prev.countP (fun p => farB ops ms p i)) b)
      | none => false) && chk ops ms (prev ++ [i]) rest
def planB (ops : Array Oper) (items : List (Nat × Nat)) : Bool :=
  chk ops (masks ops) [] items && (List.range ops.size).all (fun i => items.any fun p => p.1 == i)

/-- What a check says of one place. -/
structure PlanAt (ops : Array Oper) (prev : List Nat) (i b : Nat) (o : Oper) : Prop where
  op : ops[i]? = some o
  deps : ∀ e ∈ o.after, Region.binds .any e = true → e.on ∈ prev
  new : i ∉ prev
  ahead : ∀ p ∈ prev, befB (masks ops) p i = true ∨ (isEff o = false ∧ apartB ops p i = true)
  few : memless o = true ∨ prev.countP (fun p => farB ops (masks ops) p i) ≤ b
theorem chk_at {ops : Array Oper} : ∀ (items : List (Nat × Nat)) (prev : List Nat), chk ops (masks ops) prev items = true →
    ∀ q it, items[q]? = some it → ∃ o, PlanAt ops (prev ++ (items.take q).map Prod.fst) it.1 it.2 o
  | [], prev, _, q, it, h => by simp at h
  | (i, b) :: rest, prev, hc, q, it, h => by
    unfold chk at hc
    rw [Bool.and_eq_true] at hc
    obtain ⟨hc1, hc2⟩ := hc
    cases q with
    | zero =>
      simp at h; subst h
      split at hc1
      · rename_i o ho
        simp only [Bool.and_eq_true, Bool.or_eq_true, List.all_eq_true, Bool.not_eq_true', List.contains_iff_mem] at hc1
        obtain ⟨⟨⟨c1, c2⟩, c3⟩, c4⟩ := hc1
        refine ⟨o, ho, ?_, ?_, ?_, ?_⟩
        · intro e he hb
          rcases c1 e (by simpa using he) with h | h
          · rw [hb] at h; simp at h
          · simpa using h
        · simpa using c2
        · intro p hp
          rcases c3 p (by simpa using hp) with h | h
          · exact .inl h
          · exact .inr ⟨h.1, h.2⟩
        · rcases c4 with h | h
          · exact .inl h
          · rw [Nat.ble_eq] at h; exact .inr (by simpa using h)
      · simp at hc1
    | succ q =>
      obtain ⟨o, ho⟩ := chk_at rest (prev ++ [i]) hc2 q it (by simpa using h)
      exact ⟨o, by simpa using ho⟩
theorem plan_all {ops : Array Oper} {items : List (Nat × Nat)} (h : planB ops items = true) {i : Nat} (hi : i < ops.size) : ∃ (q : Nat) (it : Nat × Nat), items[q]? = some it ∧ it.1 = i := by
  unfold planB at h
  rw [Bool.and_eq_true] at h
  have := List.all_eq_true.1 h.2 i (by simpa using hi)
  obtain ⟨it, h1, h2⟩ := List.any_eq_true.1 this
  obtain ⟨q, hq, e⟩ := List.getElem_of_mem h1
  exact ⟨q, it, by rw [List.getElem?_eq_getElem hq, e], by simpa using h2⟩
end
end Go.Proofs.YtbobnbndbgpanaaGreat.Sx
