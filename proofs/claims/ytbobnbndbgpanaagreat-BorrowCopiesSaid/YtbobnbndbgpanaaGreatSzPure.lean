/- Contracts of functions of plain data: what a run over letters answers is reckoned for numbers and texts; tables of texts. -/
import Derived.Test.YtbobnbndbgpanaaGreatSzFast5
namespace Go.Proofs.YtbobnbndbgpanaaGreat.Sx
open Go Go.RowKit
set_option linter.unusedVariables false
set_option linter.unusedSimpArgs false
noncomputable section

/-! ### What a condition comes to, texts being lists -/
def S.lst (ls : Nat → List UInt8) : S → Option (List UInt8)
  | .lit l => some l
  | .var i => some (ls i)
  | .fn _ _ => none
def B.dl (η : Env) (ls : Nat → List UInt8) : B → Bool
  | .seq a b => match a.lst ls, b.lst ls with
    | some x, some y => x == y
    | _, _ => (B.seq a b).den η
  | .not a => !(a.dl η ls)
  | .and a b => a.dl η ls && b.dl η ls
  | b => b.den η
theorem lst_den {η : Env} {ls : Nat → List UInt8} (h : ∀ i, η.s i = ⟨(ls i).toArray⟩) {s : S} {l : List UInt8} (hl : s.lst ls = some l) : (s.den η).toList = l := by
  have q : ∀ l : List UInt8, (⟨l.toArray⟩ : ByteArray).toList = l := fun l => by simp
  cases s with
  | lit x => simp only [S.lst, Option.some.injEq] at hl; subst hl; simp only [S.den, q]
  | var i => simp only [S.lst, Option.some.injEq] at hl; subst hl; simp only [S.den, h, q]
  | fn i a => simp [S.lst] at hl
theorem B.dl_eq {η : Env} {ls : Nat → List UInt8} (h : ∀ i, η.s i = ⟨(ls i).toArray⟩) : ∀ b : B, b.dl η ls = b.den η
  | .seq a b => by
    unfold B.dl
    split
    · rename_i x y hx hy
      simp only [B.den, lst_den h hx, lst_den h hy]
    · rfl
  | .not a => by simp only [B.dl, B.den, B.dl_eq h a]
  | .and a b => by simp only [B.dl, B.den, B.dl_eq h a, B.dl_eq h b]
  | .lit _ => rfl
  | .var _ => rfl
  | .cmp _ _ _ => rfl
  | .eqb _ _ => rfl
  | .fn _ _ _ _ => rfl
  | .fn5 _ _ _ _ _ _ => rfl
/-- The answer that a tree has, as a plain value. -/
def T.ans (η : Env) (ls : Nat → List UInt8) : T V → Option V
  | .ret (.int k e) => some (.int k (.lit (e.den η)))
  | .ret (.bool b) => some (.bool (.lit (b.dl η ls)))
  | .ret _ => none
  | .node b t e => if b.dl η ls then t.ans η ls else e.ans η ls
  | .fail _ => none
theorem T.ans_sel {η : Env} {ls : Nat → List UInt8} (h : ∀ i, η.s i = ⟨(ls i).toArray⟩) : ∀ {t : T V} {v : V}, t.ans η ls = some v → ∃ w, t.sel η = some w ∧ ∀ (φ φ' : Place) (η' : Env) (x : Value), VR η φ w x → VR η' φ' v x
  | .ret w, v, hv => by
    refine ⟨w, rfl, ?_⟩
    cases w <;> simp only [T.ans, Option.some.injEq, reduceCtorEq] at hv <;> subst hv <;> intro φ φ' η' x hx <;> cases hx
    · rename_i b
      have e := B.dl_eq h b
      rw [← e]
      exact VR.bool (.lit (b.dl η ls))
    · rename_i k e; exact VR.int k (.lit (e.den η))
  | .node b t e, v, hv => by
    simp only [T.ans, B.dl_eq h b] at hv
    simp only [T.sel]
    split at hv
    · rename_i hb; rw [if_pos hb]; exact T.ans_sel h hv
    · rename_i hb; rw [if_neg hb]; exact T.ans_sel h hv
  | .fail n, v, hv => by simp [T.ans] at hv

section
variable {η : Env} {P : Program}
/-- Of one number. -/
def numG (t : T V) (k : IntKind) (args : List V) : Option V :=
  match args with
  | [.int k' (.lit n)] => if k' = k then t.ans { i := fun _ => n } (fun _ => []) else none
  | _ => none
theorem SumOk.num (hP : Plain P) (hM : P.follows .mixedOrders = true) {sm : Summary} (hsm : SumOk η P sm) {fns : List FuncId} (hl : okFns P fns = true) {n : Nat} {f : FuncId} {k : IntKind} {t : T V} (h : callTopF P noSum fns n f [.int k (.var 0)] [] = t) :
    SumOk η P (sm.put f (numG t k)) := by
  refine hsm.put fun args v hg φ args' W hargs => ?_
  unfold numG at hg
  split at hg
  case h_2 => simp at hg
  rename_i k' x
  split at hg
  case isFalse => simp at hg
  rename_i e; subst e
  rw [callTopF_eq hl] at h
  cases hargs with | cons _ v' _ _ hv ht =>
  cases ht
  cases hv
  obtain ⟨w, h1, h2⟩ := T.ans_sel (η := { i := fun _ => x }) (ls := fun _ => []) (fun _ => rfl) hg
  rw [← h] at h1
  refine (callTop_ok hP hM (noSum_ok _ _) (args' := [.int k' x]) (.cons _ _ _ _ (VR.int k' (.var 0)) .nil) facts_none h1 W).mono ?_
  rintro e W' ⟨v', φ', rfl, h3, h4⟩
  exact ⟨v', rfl, fun φ => h2 _ _ _ _ h3, h4⟩
/-- Of one text. -/
def textG (t : T V) (args : List V) : Option V :=
  match args with
  | [.str (.lit l)] => t.ans { s := fun _ => ⟨l.toArray⟩ } (fun _ => l)
  | _ => none
theorem SumOk.text (hP : Plain P) (hM : P.follows .mixedOrders = true) {sm : Summary} (hsm : SumOk η P sm) {fns : List FuncId} (hl : okFns P fns = true) {n : Nat} {f : FuncId} {t : T V} (h : callTopF P noSum fns n f [.str (.var 0)] [] = t) :
    SumOk η P (sm.put f (textG t)) := by
  refine hsm.put fun args v hg φ args' W hargs => ?_
  unfold textG at hg
  split at hg
  case h_2 => simp at hg
  rename_i l
  rw [callTopF_eq hl] at h
  cases hargs with | cons _ v' _ _ hv ht =>
  cases ht
  cases hv
  obtain ⟨w, h1, h2⟩ := T.ans_sel (η := { s := fun _ => ⟨l.toArray⟩ }) (ls := fun _ => l) (fun _ => rfl) hg
  rw [← h] at h1
  refine (callTop_ok hP hM (noSum_ok _ _) (args' := [.string ⟨l.toArray⟩]) (.cons _ _ _ _ (VR.str (.var 0)) .nil) facts_none h1 W).mono ?_
  rintro e W' ⟨v', φ', rfl, h3, h4⟩
  exact ⟨v', rfl, fun φ => h2 _ _ _ _ h3, h4⟩

/-! ### Tables of how texts begin -/
def dropP : List UInt8 → List UInt8 → Option (List UInt8)
  | [], l => some l
  | _ :: _, [] => none
  | a :: p, b :: l => if a = b then dropP p l else none
theorem dropP_ok : ∀ {p l r : List UInt8}, dropP p l = some r → l = p ++ r
  | [], l, r, h => by simp [dropP] at h; simpa using h
  | a :: p, [], r, h => by simp [dropP] at h
  | a :: p, b :: l, r, h => by
    simp only [dropP] at h
    split at h
    · rename_i e; subst e; rw [dropP_ok h]; rfl
    · simp at h
structure Beg where
  p : List UInt8
  all : Bool
  v : V
def litI? : V → Bool
  | .int _ (.lit _) => true
  | .bool (.lit _) => true
  | _ => false
theorem litI_any {v : V} (h : litI? v = true) {η η' : Env} {φ φ' : Place} {x : Value} (hx : VR η φ v x) : VR η' φ' v x := by
  unfold litI? at h
  split at h
  · rename_i k n; cases hx; exact VR.int k (.lit n)
  · rename_i b; cases hx; exact VR.bool (.lit b)
  · simp at h
def lookB : List Beg → List UInt8 → Option V
  | [], _ => none
  | e :: t, l => match dropP e.p l with
    | some r => if e.all && !r.isEmpty then lookB t l else some e.v
    | none => lookB t l
def BegOk (P : Program) (fns : List FuncId) (n : Nat) (f : FuncId) (e : Beg) : Prop :=
  litI? e.v = true ∧ ∀ r : List UInt8, (e.all = true → r = []) → callTopF P noSum fns n f [.str (.lit (e.p ++ r))] [] = .ret e.v
inductive BegsOk (P : Program) (fns : List FuncId) (n : Nat) (f : FuncId) : List Beg → Prop where
  | nil : BegsOk P fns n f []
  | cons {e : Beg} {l : List Beg} (h : BegOk P fns n f e) (t : BegsOk P fns n f l) : BegsOk P fns n f (e :: l)
theorem lookB_ok {fns : List FuncId} {n : Nat} {f : FuncId} : ∀ {tbl : List Beg} {l : List UInt8} {v : V}, BegsOk P fns n f tbl → lookB tbl l = some v → litI? v = true ∧ callTopF P noSum fns n f [.str (.lit l)] [] = .ret v
  | _, l, v, .nil, h => by simp [lookB] at h
  | _, l, v, .cons (e := e) h0 t, h => by
    simp only [lookB] at h
    split at h
    · rename_i r hr
      split at h
      · exact lookB_ok t h
      · rename_i hc
        simp only [Option.some.injEq] at h; subst h
        refine ⟨h0.1, ?_⟩
        rw [dropP_ok hr]
        refine h0.2 r fun ha => ?_
        rw [ha] at hc
        simpa using hc
    · exact lookB_ok t h
def begG (tbl : List Beg) (args : List V) : Option V :=
  match args with
  | [.str (.lit l)] => lookB tbl l
  | _ => none
theorem SumOk.begs (hP : Plain P) (hM : P.follows .mixedOrders = true) {sm : Summary} (hsm : SumOk η P sm) {fns : List FuncId} (hl : okFns P fns = true) {n : Nat} {f : FuncId} {tbl : List Beg} (h : BegsOk P fns n f tbl) :
    SumOk η P (sm.put f (begG tbl)) := by
  refine hsm.put fun args v hg φ args' W hargs => ?_
  unfold begG at hg
  split at hg
  case h_2 => simp at hg
  rename_i l
  obtain ⟨h0, h1⟩ := lookB_ok h hg
  rw [callTopF_eq hl] at h1
  cases hargs with | cons _ v' _ _ hv ht =>
  cases ht
  cases hv
  refine (callTop_ok (η := η) hP hM (noSum_ok _ _) (args' := [.string ⟨l.toArray⟩]) (.cons _ _ _ _ (VR.str (.lit l)) .nil) facts_none (by rw [h1]; rfl) W).mono ?_
  rintro e W' ⟨v', φ', rfl, h3, h4⟩
  exact ⟨v', rfl, fun φ => litI_any h0 h3, h4⟩

/-! ### A run that comes to true -/
def isTrue (t : T V) : Bool :=
  match t with
  | .ret (.bool (.lit x)) => x
  | _ => false
/-- The tree is 'true'. (A structure: nobody looks into it by chance.) -/
structure IsTrue (t : T V) : Prop where
  out : isTrue t = true
theorem IsTrue.to {t u : T V} (h : IsTrue t) (e : t = u) : IsTrue u := e ▸ h
theorem IsTrue.yes {t : T V} (h : IsTrue t) : t.yes η := by
  have h := h.out
  unfold isTrue at h
  split at h
  · exact h
  · simp at h
theorem law_true (hP : Plain P) (hM : P.follows .mixedOrders = true) {sm : Summary} (hsm : SumOk η P sm) {n : Nat} {f : FuncId} {args : List V} {args' : List Value} (hargs : VRs η noPlace args args') {facts : List (B × Bool)} (hf : ∀ p ∈ facts, p.1.den η = p.2)
    {t : T V} (h : IsTrue t) (e : t = callTop P sm n f args facts) (W : World) : Calls P f args'.toArray W fun e W' => e = .returned (.bool true) ∧ Below W.heap.size W W' :=
  law_ok hP hM hsm hargs hf (h.to e).yes W
end
end
end Go.Proofs.YtbobnbndbgpanaaGreat.Sx
