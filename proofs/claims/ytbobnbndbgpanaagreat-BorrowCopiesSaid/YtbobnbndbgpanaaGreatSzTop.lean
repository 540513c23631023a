/- The executor at a call from outside: what its tree of ways says of the call. -/
import Derived.Test.YtbobnbndbgpanaaGreatSzEv
namespace Go.Proofs.YtbobnbndbgpanaaGreat.Sx
open Go Go.RowKit
set_option linter.unusedVariables false
set_option linter.unusedSimpArgs false
noncomputable section

def noPlace : Place := fun _ => none
def callTop (P : Program) (sm : Summary) (n : Nat) (f : FuncId) (args : List V) (facts : List (B × Bool)) : T V :=
  (callE P sm (ev P sm n) (evD P sm n) f args ⟨.none, facts⟩).bind fun r => match r.1 with
    | .ret v => .ret v
    | .pan _ => .fail 88

section
variable {η : Env} {P : Program}
theorem SR.start (η : Env) {facts : List (B × Bool)} (hf : ∀ p ∈ facts, p.1.den η = p.2) (W : World) : SR η noPlace ⟨.none, facts⟩ W :=
  ⟨fun k o h => by rw [Hp.get_none] at h; simp at h, fun k b s h => by simp [noPlace] at h, fun j k b s s' oj ok h => by simp [noPlace] at h, hf⟩
theorem Ext.below {φ : Place} {W W' : World} (h : Ext noPlace φ W W') : Below W.heap.size W W' :=
  ⟨h.os, h.tape, h.output, h.size, fun b hb => h.block b hb (fun k s => by simp [noPlace])⟩

theorem callTop_ok (hP : Plain P) (hM : P.follows .mixedOrders = true) {sm : Summary} (hsm : SumOk η P sm) {n : Nat} {f : FuncId} {args : List V} {args' : List Value} {v : V} (hargs : VRs η noPlace args args') {facts : List (B × Bool)} (hf : ∀ p ∈ facts, p.1.den η = p.2)
    (h : (callTop P sm n f args facts).sel η = some v) (W : World) :
    Calls P f args'.toArray W fun e W' => ∃ v' φ, e = .returned v' ∧ VR η φ v v' ∧ Below W.heap.size W W' := by
  unfold callTop at h
  rw [T.sel_bind] at h
  cases hr : (callE P sm (ev P sm n) (evD P sm n) f args ⟨.none, facts⟩).sel η with
  | none => rw [hr] at h; simp at h
  | some q =>
    obtain ⟨c, st⟩ := q
    rw [hr] at h
    cases c with
    | pan v => simp [T.sel] at h
    | ret v1 =>
      simp [T.sel] at h; subst h
      obtain ⟨h1, _, h2⟩ := ev_ok hP hM hsm n
      refine (callE_ok hP hsm h1 h2 f args _ _ st hr noPlace args' W hargs (SR.start η hf W)).mono ?_
      rintro e W' ⟨φ', ⟨v', rfl, h1⟩, h2, h3⟩
      exact ⟨v', φ', rfl, h1, h3.below⟩

/-- Every way ends in 'true'. -/
def T.yes (η : Env) : T V → Prop
  | .ret (.bool b) => b.den η = true
  | .ret _ => False
  | .node b t e => if b.den η = true then t.yes η else e.yes η
  | .fail _ => False
theorem T.yes_sel {η : Env} : ∀ {t : T V}, t.yes η → ∃ b, t.sel η = some (.bool b) ∧ b.den η = true
  | .ret v, h => by cases v <;> simp only [T.yes] at h <;> exact ⟨_, rfl, h⟩
  | .node b t e, h => by
    simp only [T.yes] at h
    simp only [T.sel]
    split at h
    · rename_i hb; rw [if_pos hb]; exact T.yes_sel h
    · rename_i hb; rw [if_neg hb]; exact T.yes_sel h
  | .fail n, h => h.elim

theorem law_ok (hP : Plain P) (hM : P.follows .mixedOrders = true) {sm : Summary} (hsm : SumOk η P sm) {n : Nat} {f : FuncId} {args : List V} {args' : List Value} (hargs : VRs η noPlace args args') {facts : List (B × Bool)} (hf : ∀ p ∈ facts, p.1.den η = p.2)
    (h : (callTop P sm n f args facts).yes η) (W : World) :
    Calls P f args'.toArray W fun e W' => e = .returned (.bool true) ∧ Below W.heap.size W W' := by
  obtain ⟨b, h1, h2⟩ := T.yes_sel h
  refine (callTop_ok hP hM hsm hargs hf h1 W).mono ?_
  rintro e W' ⟨v', φ, rfl, h3, h4⟩
  cases h3
  exact ⟨by rw [h2], h4⟩

/-! ### The same in plain words -/
def propI (op : BinOp) (x y : Int) : Prop :=
  match op with
  | .eql => x = y
  | .neq => x ≠ y
  | .lss => x < y
  | .leq => x ≤ y
  | .gtr => x > y
  | .geq => x ≥ y
  | _ => False
theorem cmpI_iff (op : BinOp) (x y : Int) : cmpI op x y = true ↔ propI op x y := by
  unfold cmpI propI; split <;> simp
def B.prop (η : Env) : B → Prop
  | .lit b => b = true
  | .var i => η.b i = true
  | .cmp op a b => propI op (a.den η) (b.den η)
  | .not a => ¬ a.prop η
  | .eqb a b => (a.prop η ↔ b.prop η)
  | .seq a b => (a.den η).toList = (b.den η).toList
  | .and a b => a.prop η ∧ b.prop η
  | .fn i a b c => η.fb i (a.den η) (b.den η) (c.den η) = true
  | .fn5 i a b c d e => η.fb5 i (a.den η) (b.den η) (c.den η) (d.den η) (e.den η) = true
theorem B.prop_iff (η : Env) : ∀ b : B, b.den η = true ↔ b.prop η
  | .lit b => Iff.rfl
  | .var i => Iff.rfl
  | .cmp op a b => cmpI_iff op _ _
  | .not a => by have := B.prop_iff η a; simp only [B.den, B.prop, ← this]; simp
  | .eqb a b => by
    have h1 := B.prop_iff η a; have h2 := B.prop_iff η b
    simp only [B.den, B.prop, ← h1, ← h2]; cases B.den η a <;> cases B.den η b <;> simp
  | .seq a b => by simp [B.den, B.prop]
  | .and a b => by have h1 := B.prop_iff η a; have h2 := B.prop_iff η b; simp only [B.den, B.prop, ← h1, ← h2]; simp
  | .fn i a b c => Iff.rfl
  | .fn5 i a b c d e => Iff.rfl
def T.good (η : Env) : T V → Prop
  | .ret (.bool b) => b.prop η
  | .ret _ => False
  | .node b t e => (b.prop η → t.good η) ∧ (¬ b.prop η → e.good η)
  | .fail _ => False
theorem T.good_yes {η : Env} : ∀ {t : T V}, t.good η → t.yes η
  | .ret v, h => by cases v <;> simp only [T.good, T.yes] at h ⊢; exact (B.prop_iff η _).2 h
  | .node b t e, h => by
    simp only [T.good] at h
    simp only [T.yes]
    split
    · rename_i hb; exact T.good_yes (h.1 ((B.prop_iff η b).1 hb))
    · rename_i hb; exact T.good_yes (h.2 (fun hp => hb ((B.prop_iff η b).2 hp)))
  | .fail n, h => h.elim

/-- A number is this one of 0 .. 8. -/
def factsOf (e : E) (c : Int) : List (B × Bool) :=
  [(.cmp .lss e (.lit 0), cmpI .lss c 0), (.cmp .geq e (.lit 9), cmpI .geq c 9), (.cmp .geq e (.lit 3), cmpI .geq c 3), (.cmp .leq e (.lit 8), cmpI .leq c 8), (.cmp .eql e (.lit 0), cmpI .eql c 0), (.cmp .eql e (.lit 1), cmpI .eql c 1), (.cmp .eql e (.lit 2), cmpI .eql c 2), (.cmp .eql e (.lit 3), cmpI .eql c 3),
   (.cmp .eql e (.lit 4), cmpI .eql c 4), (.cmp .eql e (.lit 5), cmpI .eql c 5), (.cmp .eql e (.lit 6), cmpI .eql c 6), (.cmp .eql e (.lit 7), cmpI .eql c 7), (.cmp .eql e (.lit 8), cmpI .eql c 8)]
theorem factsOf_ok {η : Env} {e : E} {c : Int} (h : e.den η = c) : ∀ p ∈ factsOf e c, p.1.den η = p.2 := by
  intro p hp
  simp only [factsOf, List.mem_cons, List.not_mem_nil, or_false] at hp
  rcases hp with rfl | rfl | rfl | rfl | rfl | rfl | rfl | rfl | rfl | rfl | rfl | rfl | rfl <;> simp only [B.den, E.den, h]
theorem facts_none {η : Env} : ∀ p ∈ ([] : List (B × Bool)), p.1.den η = p.2 := fun p h => by simp at h

def noSum : Summary := fun _ => none
theorem noSum_ok (η : Env) (P : Program) : SumOk η P noSum := fun f args st c st' h => by simp [sumV, noSum] at h
end
end
end Go.Proofs.YtbobnbndbgpanaaGreat.Sx
