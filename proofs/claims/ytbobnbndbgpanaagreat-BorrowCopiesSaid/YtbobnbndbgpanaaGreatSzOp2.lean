/- The executor's operations on numbers, tests, structs and arrays. -/
import Derived.Test.YtbobnbndbgpanaaGreatSzOp
namespace Go.Proofs.YtbobnbndbgpanaaGreat.Sx
open Go
set_option linter.unusedVariables false
set_option linter.unusedSimpArgs false
noncomputable section

section
variable {η : Env} {φ : Place} {W : World} {P : Program}

/-! ### Equality -/
def eqFs (P : Program) (eq : TypeId → V → V → Option B) (xs ys : List V) : List Field → Option B
  | [] => some (.lit true)
  | f :: fs =>
    if f.name = "_" then eqFs P eq xs ys fs else
    match partV P f.type xs f.offset, partV P f.type ys f.offset with
    | some a, some b => match eq f.type a b with
      | some r => match eqFs P eq xs ys fs with
        | some q => some (B.and' r q)
        | none => none
      | none => none
    | _, _ => none
def eqV (P : Program) : (d : Nat) → TypeId → V → V → Option B
  | 0, _, _, _ => none
  | d + 1, t, x, y =>
    match P.underlying t, x, y with
    | some .bool, .bool a, .bool b => some (B.eqb' a b)
    | some (.int _), .int k a, .int k' b => if k = k' then some (B.cmp' .eql a b) else none
    | some .string, .str a, .str b => some (B.seq' a b)
    | some (.pointer _), .ptr none, .ptr b => some (.lit b.isNone)
    | some (.pointer _), .ptr (some _), .ptr none => some (.lit false)
    | some (.slice _), .slice none _ _ _, .slice b _ _ _ => some (.lit b.isNone)
    | some (.slice _), .slice (some _) _ _ _, .slice none _ _ _ => some (.lit false)
    | some (.map _ _), .map none, .map b => some (.lit b.isNone)
    | some (.map _ _), .map (some _), .map none => some (.lit false)
    | some (.func _ _ _), .nilFunc, .nilFunc => some (.lit true)
    | some (.func _ _ _), .nilFunc, .func _ _ _ => some (.lit false)
    | some (.func _ _ _), .func _ _ _, .nilFunc => some (.lit false)
    | some (.interface _), .nilIface, .nilIface => some (.lit true)
    | some (.interface _), .nilIface, .iface _ _ => some (.lit false)
    | some (.interface _), .iface _ _, .nilIface => some (.lit false)
    | some (.interface _), .iface tx vx, .iface ty vy =>
      if tx = ty then (match P.info? tx with
        | some i => if i.comparable then eqV P d tx vx vy else none
        | none => none)
      else some (.lit false)
    | some (.struct fs), .agg xs, .agg ys => if P.stoodInHeld t then none else eqFs P (eqV P d) xs ys fs.toList
    | _, _, _ => none

theorem run_eqFs {d : Nat} {eq : TypeId → V → V → Option B}
    (heq : ∀ t x y b x' y', eq t x y = some b → VR η φ x x' → VR η φ y y' → (Op.equalIn d t x' y').run P W = .ok (b.den η) W)
    {xs ys : List V} {xs' ys' : List Value} (hx : VRs η φ xs xs') (hy : VRs η φ ys ys') :
    ∀ (fs : List Field) (b : B), eqFs P eq xs ys fs = some b → (Op.eqFields d xs'.toArray ys'.toArray fs).run P W = .ok (b.den η) W := by
  intro fs
  induction fs with
  | nil => intro b h; simp [eqFs] at h; subst h; simp [Op.eqFields, B.den]
  | cons f fs ih =>
    intro b h
    unfold eqFs at h
    unfold Op.eqFields
    by_cases hn : f.name = "_"
    · rw [if_pos hn] at h; simp only [hn, ne_eq, not_true_eq_false, if_false]; exact ih b h
    · rw [if_neg hn] at h
      simp only [ne_eq, hn, not_false_eq_true, if_true]
      split at h
      · rename_i a c ha hc
        split at h
        · rename_i r hr
          split at h
          · rename_i q hq
            simp at h; subst h
            obtain ⟨a', h1, h2⟩ := run_partV hx ha W
            obtain ⟨c', h3, h4⟩ := run_partV hy hc W
            have h5 := heq _ _ _ _ _ _ hr h2 h4
            simp only [Sem.run_bind, h1, h3, h5, Result.andThen_ok]
            cases hrd : r.den η
            · simp [hrd]
            · simpa [hrd] using ih q hq
          · simp at h
        · simp at h
      · simp at h

theorem run_eqV : ∀ (d : Nat) (t : TypeId) (x y : V) (b : B) (x' y' : Value), eqV P d t x y = some b → VR η φ x x' → VR η φ y y' → (Op.equalIn d t x' y').run P W = .ok (b.den η) W := by
  intro d
  induction d with
  | zero => intro t x y b x' y' h; simp [eqV] at h
  | succ d ih =>
    intro t x y b x' y' h hx hy
    unfold eqV at h
    split at h
    all_goals try (simp at h; done)
    case h_1 hu =>
      simp at h; subst h; cases hx; cases hy
      rw [run_equalIn_bool' W d t _ _ hu]; simp
    case h_2 hu =>
      split at h
      · rename_i hk; subst hk; simp at h; subst h; cases hx; cases hy
        rw [run_equalIn_int W d t _ _ _ _ hu]; simp [cmpI]
      · simp at h
    case h_3 hu =>
      simp at h; subst h; cases hx; cases hy
      rw [run_equalIn_string W d t _ _ hu]; simp
    case h_16 hu =>
      split at h
      · rename_i he; subst he
        split at h
        · rename_i i hi
          split at h
          · rename_i hc
            cases hx with | iface _ _ vx' hvx => cases hy with | iface _ _ vy' hvy =>
            have := ih _ _ _ _ _ _ h hvx hvy
            simp [Op.equalIn, run_underlying hu, typeInfo, hi, hc, this]
          · simp at h
        · simp at h
      · rename_i he; simp at h; subst h
        cases hx with | iface _ _ vx' hvx => cases hy with | iface _ _ vy' hvy =>
        simp [Op.equalIn, run_underlying hu, he, B.den]
    case h_17 fs xs ys hu =>
      split at h
      · simp at h
      · rename_i hp
        cases hx with | agg _ xs' hxs => cases hy with | agg _ ys' hys =>
        have hf : P.underlying t = some (.struct (P.fieldsOf t)) := by rw [hu]; simp [Program.fieldsOf, hu]
        rw [run_equalIn_struct W d t _ _ hf (by simpa using hp)]
        have he : P.fieldsOf t = fs := by simp only [Program.fieldsOf, hu]
        rw [he]
        exact run_eqFs (fun t x y b x' y' => ih t x y b x' y') hxs hys _ _ h
    all_goals (rename_i hu; simp at h; subst h; cases hx <;> cases hy <;> simp [Op.equalIn, run_underlying hu, B.den])

end
end
end Go.Proofs.YtbobnbndbgpanaaGreat.Sx
