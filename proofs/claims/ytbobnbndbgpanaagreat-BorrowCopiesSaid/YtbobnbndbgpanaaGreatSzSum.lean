/- Contracts: what a proved function answers, so that others may call it without stepping through it. -/
import Derived.Test.YtbobnbndbgpanaaGreatSzArith
namespace Go.Proofs.YtbobnbndbgpanaaGreat.Sx
open Go Go.RowKit
set_option linter.unusedVariables false
set_option linter.unusedSimpArgs false
noncomputable section

mutual
/-- The value that a plain term stands for. -/
def V.val (η : Env) : V → Option Value
  | .bool b => some (.bool (b.den η))
  | .int k e => some (.int k (e.den η))
  | .str s => some (.string (s.den η))
  | .nilIface => some .nilIface
  | .agg cs => (V.vals η cs).map fun l => .agg l.toArray
  | .tuple cs => (V.vals η cs).map fun l => .tuple l.toArray
  | _ => none
def V.vals (η : Env) : List V → Option (List Value)
  | [] => some []
  | v :: l => match V.val η v, V.vals η l with
    | some x, some y => some (x :: y)
    | _, _ => none
end
mutual
theorem V.val_ok {η : Env} {φ : Place} : ∀ (v : V) (x : Value), V.val η v = some x → VR η φ v x
  | .bool b, x, h => by simp only [V.val, Option.some.injEq] at h; subst h; exact .bool b
  | .int k e, x, h => by simp only [V.val, Option.some.injEq] at h; subst h; exact .int k e
  | .str s, x, h => by simp only [V.val, Option.some.injEq] at h; subst h; exact .str s
  | .nilIface, x, h => by simp only [V.val, Option.some.injEq] at h; subst h; exact .nilIface
  | .agg cs, x, h => by
    simp only [V.val] at h
    cases hl : V.vals η cs with
    | none => rw [hl] at h; simp at h
    | some l => rw [hl] at h; simp at h; subst h; exact .agg cs l (V.vals_ok cs l hl)
  | .tuple cs, x, h => by
    simp only [V.val] at h
    cases hl : V.vals η cs with
    | none => rw [hl] at h; simp at h
    | some l => rw [hl] at h; simp at h; subst h; exact .tuple cs l (V.vals_ok cs l hl)
  | .ptr _, x, h => by simp [V.val] at h
  | .slice _ _ _ _, x, h => by simp [V.val] at h
  | .sliceE, x, h => by simp [V.val] at h
  | .map _, x, h => by simp [V.val] at h
  | .func _ _ _, x, h => by simp [V.val] at h
  | .nilFunc, x, h => by simp [V.val] at h
  | .iface _ _, x, h => by simp [V.val] at h
theorem V.vals_ok {η : Env} {φ : Place} : ∀ (l : List V) (x : List Value), V.vals η l = some x → VRs η φ l x
  | [], x, h => by simp only [V.vals, Option.some.injEq] at h; subst h; exact .nil
  | v :: l, x, h => by
    simp only [V.vals] at h
    split at h
    · rename_i a b ha hb
      simp only [Option.some.injEq] at h; subst h
      exact .cons _ _ _ _ (V.val_ok v a ha) (V.vals_ok l b hb)
    · simp at h
end

theorem V.val_uniq {η : Env} {φ : Place} {v : V} {v' : Value} (h : VR η φ v v') : ∀ x, V.val η v = some x → v' = x := by
  refine VR.rec (motive_1 := fun v a _ => ∀ x, V.val η v = some x → a = x) (motive_2 := fun l a _ => ∀ x, V.vals η l = some x → a = x) ?_ ?_ ?_ ?_ ?_ ?_ ?_ ?_ ?_ ?_ ?_ ?_ ?_ ?_ ?_ ?_ ?_ ?_ h
  · intro b x hx; simpa [V.val] using hx
  · intro k e x hx; simpa [V.val] using hx
  · intro s x hx; simpa [V.val] using hx
  · intro x hx; simp [V.val] at hx
  · intro k o b s h x hx; simp [V.val] at hx
  · intro l c x y hy; simp [V.val] at hy
  · intro k o b s l c x h y hy; simp [V.val] at hy
  · intro a c x hx; simp [V.val] at hx
  · intro x hx; simp [V.val] at hx
  · intro k b s h x hx; simp [V.val] at hx
  · intro fn a c a' c' _ _ h1 h2 x hx; simp [V.val] at hx
  · intro x hx; simp [V.val] at hx
  · intro t v v' _ h x hx; simp [V.val] at hx
  · intro x hx; simpa [V.val] using hx
  · intro cs cs' _ h x hx
    simp only [V.val] at hx
    cases hl : V.vals η cs with
    | none => rw [hl] at hx; simp at hx
    | some l => rw [hl] at hx; simp at hx; rw [h _ hl]; exact hx
  · intro cs cs' _ h x hx
    simp only [V.val] at hx
    cases hl : V.vals η cs with
    | none => rw [hl] at hx; simp at hx
    | some l => rw [hl] at hx; simp at hx; rw [h _ hl]; exact hx
  · intro x hx; simpa [V.vals] using hx
  · intro v v' l l' _ _ h t x hx
    simp only [V.vals] at hx
    split at hx
    · rename_i a b ha hb
      simp only [Option.some.injEq] at hx; subst hx
      rw [h _ ha, t _ hb]
    · simp at hx

/-- All ways of a tree end in the value. -/
def T.gives (η : Env) (x : Value) : T V → Prop
  | .ret v => V.val η v = some x
  | .node b t e => (b.prop η → t.gives η x) ∧ (¬ b.prop η → e.gives η x)
  | .fail _ => False
theorem T.gives_sel {η : Env} {x : Value} : ∀ {t : T V}, t.gives η x → ∃ v, t.sel η = some v ∧ V.val η v = some x
  | .ret v, h => ⟨v, rfl, h⟩
  | .node b t e, h => by
    simp only [T.gives] at h
    simp only [T.sel]
    split
    · rename_i hb; exact T.gives_sel (h.1 ((B.prop_iff η b).1 hb))
    · rename_i hb; exact T.gives_sel (h.2 (fun hp => hb ((B.prop_iff η b).2 hp)))
  | .fail n, h => h.elim

section
variable {η : Env} {P : Program}
theorem contract (hP : Plain P) (hM : P.follows .mixedOrders = true) {sm : Summary} (hsm : SumOk η P sm) {n : Nat} {f : FuncId} {args : List V} {args' : List Value} {x : Value} (hargs : VRs η noPlace args args')
    {facts : List (B × Bool)} (hf : ∀ p ∈ facts, p.1.den η = p.2) (h : (callTop P sm n f args facts).gives η x) (W : World) :
    Calls P f args'.toArray W fun e W' => e = .returned x ∧ Below W.heap.size W W' := by
  obtain ⟨v, h1, h2⟩ := T.gives_sel h
  refine (callTop_ok hP hM hsm hargs hf h1 W).mono ?_
  rintro e W' ⟨v', φ, rfl, h3, h4⟩
  exact ⟨by rw [V.val_uniq h3 x h2], h4⟩

/-- One contract more. -/
def Summary.put (sm : Summary) (f : FuncId) (g : List V → Option V) : Summary := fun k => if k = f then some (fun args st => (g args).map fun v => (.ret v, st)) else sm k
theorem SumOk.put {sm : Summary} (hsm : SumOk η P sm) {f : FuncId} {g : List V → Option V}
    (h : ∀ args v, g args = some v → ∀ φ args' W, VRs η φ args args' → Calls P f args'.toArray W fun e W' => ∃ v', e = .returned v' ∧ (∀ φ, VR η φ v v') ∧ Below W.heap.size W W') :
    SumOk η P (sm.put f g) := by
  intro k args st c st' hk φ args' W hargs hs
  unfold sumV Summary.put at hk
  by_cases e : k = f
  · subst e
    rw [if_pos rfl] at hk
    have hk : (g args).map (fun v => (CR.ret v, st)) = some (c, st') := hk
    cases hg : g args with
    | none => rw [hg] at hk; simp at hk
    | some v =>
      rw [hg] at hk
      simp only [Option.map_some, Option.some.injEq, Prod.mk.injEq] at hk
      obtain ⟨rfl, rfl⟩ := hk
      refine (h args v hg φ args' W hargs).mono ?_
      rintro e W' ⟨v', rfl, h1, h2⟩
      exact ⟨φ, ⟨v', rfl, h1 φ⟩, hs.below h2, ⟨Mono.refl φ, fun k b s h h' => by simp [h] at h', h2.os, h2.tape, h2.output, h2.size, fun b hb _ => h2.block b hb⟩⟩
  · rw [if_neg e] at hk
    exact hsm k args st c st' hk φ args' W hargs hs
theorem one_int {φ : Place} {k : IntKind} {e : E} {l : List Value} (h : VRs η φ [.int k e] l) : l = [.int k (e.den η)] := by
  cases h with | cons _ _ _ _ h t => cases t; cases h; rfl
theorem two_ints {φ : Place} {k k' : IntKind} {e e' : E} {l : List Value} (h : VRs η φ [.int k e, .int k' e'] l) : l = [.int k (e.den η), .int k' (e'.den η)] := by
  cases h with | cons _ _ _ _ h t => cases t with | cons _ _ _ _ h' t => cases t; cases h; cases h'; rfl
end
end
end Go.Proofs.YtbobnbndbgpanaaGreat.Sx
