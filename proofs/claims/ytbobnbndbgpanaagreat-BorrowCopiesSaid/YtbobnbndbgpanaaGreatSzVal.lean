/- Values as terms, what they stand for in a world, and the memory that the executor keeps. -/
import Derived.Test.YtbobnbndbgpanaaGreatSzTab
namespace Go.Proofs.YtbobnbndbgpanaaGreat.Sx
open Go
set_option linter.unusedVariables false
set_option linter.unusedSimpArgs false

inductive V where
  | bool (b : B)
  | int (k : IntKind) (e : E)
  | str (s : S)
  | ptr (o : Option (Nat × Nat))
  | slice (o : Option (Nat × Nat)) (len cap : Nat) (exact : Bool)
  | sliceE
  | map (o : Option Nat)
  | func (fn : Fn) (first captured : List V)
  | nilFunc
  | iface (t : TypeId) (v : V)
  | nilIface
  | agg (cs : List V)
  | tuple (vs : List V)
  deriving Inhabited

/-- Where a block of the executor's lies: its block in the world; from which cell on, and how many elements its slices have to spare beyond what the executor knows. -/
abbrev Place := Nat → Option (Nat × Nat × Nat)

mutual
inductive VR (η : Env) (φ : Place) : V → Value → Prop where
  | bool (b : B) : VR η φ (.bool b) (.bool (b.den η))
  | int (k : IntKind) (e : E) : VR η φ (.int k e) (.int k (e.den η))
  | str (s : S) : VR η φ (.str s) (.string (s.den η))
  | ptrN : VR η φ (.ptr none) (.pointer none)
  | ptr (k o b : Nat) (s : Nat × Nat) (h : φ k = some (b, s)) : VR η φ (.ptr (some (k, o))) (.pointer (some ⟨b, s.1 + o, none⟩))
  | sliceN (l c : Nat) (x : Bool) : VR η φ (.slice none l c x) (.slice none l c)
  | slice (k o b : Nat) (s : Nat × Nat) (l c : Nat) (x : Bool) (h : φ k = some (b, s)) : VR η φ (.slice (some (k, o)) l c x) (.slice (some ⟨b, s.1 + o, none⟩) l (if x then c else c + s.2))
  | sliceE (a : Option Addr) (c : Nat) : VR η φ .sliceE (.slice a 0 c)
  | mapN : VR η φ (.map none) (.map none)
  | map (k b : Nat) (s : Nat × Nat) (h : φ k = some (b, s)) : VR η φ (.map (some k)) (.map (some b))
  | func (fn : Fn) (a c : List V) (a' c' : List Value) (ha : VRs η φ a a') (hc : VRs η φ c c') : VR η φ (.func fn a c) (.func fn a'.toArray c'.toArray)
  | nilFunc : VR η φ .nilFunc .nilFunc
  | iface (t : TypeId) (v : V) (v' : Value) (h : VR η φ v v') : VR η φ (.iface t v) (.iface t v')
  | nilIface : VR η φ .nilIface .nilIface
  | agg (cs : List V) (cs' : List Value) (h : VRs η φ cs cs') : VR η φ (.agg cs) (.agg cs'.toArray)
  | tuple (cs : List V) (cs' : List Value) (h : VRs η φ cs cs') : VR η φ (.tuple cs) (.tuple cs'.toArray)
inductive VRs (η : Env) (φ : Place) : List V → List Value → Prop where
  | nil : VRs η φ [] []
  | cons (v : V) (v' : Value) (l : List V) (l' : List Value) (h : VR η φ v v') (t : VRs η φ l l') : VRs η φ (v :: l) (v' :: l')
end

def Mono (φ φ' : Place) : Prop := ∀ k p, φ k = some p → φ' k = some p
theorem Mono.refl (φ : Place) : Mono φ φ := fun _ _ h => h
theorem Mono.trans {a b c : Place} (h : Mono a b) (k : Mono b c) : Mono a c := fun i p x => k i p (h i p x)

theorem VR.mono {η : Env} {φ φ' : Place} (m : Mono φ φ') {v : V} {v' : Value} (h : VR η φ v v') : VR η φ' v v' := by
  refine VR.rec (motive_1 := fun v v' _ => VR η φ' v v') (motive_2 := fun l l' _ => VRs η φ' l l') ?_ ?_ ?_ ?_ ?_ ?_ ?_ ?_ ?_ ?_ ?_ ?_ ?_ ?_ ?_ ?_ ?_ ?_ h
  · exact fun b => .bool b
  · exact fun k e => .int k e
  · exact fun s => .str s
  · exact .ptrN
  · exact fun k o b s h => .ptr k o b s (m _ _ h)
  · exact fun l c x => .sliceN l c x
  · exact fun k o b s l c x h => .slice k o b s l c x (m _ _ h)
  · exact fun a c => .sliceE a c
  · exact .mapN
  · exact fun k b s h => .map k b s (m _ _ h)
  · exact fun fn a c a' c' _ _ h1 h2 => .func fn a c a' c' h1 h2
  · exact .nilFunc
  · exact fun t v v' _ h => .iface t v v' h
  · exact .nilIface
  · exact fun cs cs' _ h => .agg cs cs' h
  · exact fun cs cs' _ h => .tuple cs cs' h
  · exact .nil
  · exact fun v v' l l' _ _ h t => .cons v v' l l' h t
theorem VRs.mono {η : Env} {φ φ' : Place} (m : Mono φ φ') : ∀ {l : List V} {l' : List Value}, VRs η φ l l' → VRs η φ' l l'
  | _, _, .nil => .nil
  | _, _, .cons v v' l l' h t => .cons v v' l l' (h.mono m) (VRs.mono m t)

/-- Terms that stand for one value. -/
def solid : Nat → V → Bool
  | 0, _ => false
  | n + 1, v => match v with
    | .sliceE => false
    | .func _ a c => a.all (solid n) && c.all (solid n)
    | .agg cs => cs.all (solid n)
    | .tuple cs => cs.all (solid n)
    | .iface _ v => solid n v
    | _ => true
theorem VR.uniq {η : Env} {φ : Place} : ∀ (n : Nat) (v : V) (a b : Value), solid n v = true → VR η φ v a → VR η φ v b → a = b := by
  intro n
  induction n with
  | zero => intro v a b h; simp [solid] at h
  | succ n ih =>
    have hl : ∀ (l : List V) (a b : List Value), l.all (solid n) = true → VRs η φ l a → VRs η φ l b → a = b := by
      intro l
      induction l with
      | nil => intro a b _ ha hb; cases ha; cases hb; rfl
      | cons v l ihl =>
        intro a b h ha hb
        cases ha with | cons _ v1 _ l1 h1 t1 =>
        cases hb with | cons _ v2 _ l2 h2 t2 =>
        simp only [List.all_cons, Bool.and_eq_true] at h
        rw [ih v v1 v2 h.1 h1 h2, ihl l1 l2 h.2 t1 t2]
    intro v a b h ha hb
    cases ha with
    | bool => cases hb; rfl
    | int => cases hb; rfl
    | str => cases hb; rfl
    | ptrN => cases hb; rfl
    | ptr k o b1 s1 h1 => cases hb with | ptr _ _ b2 s2 h2 => rw [h1] at h2; injection h2 with h2; injection h2 with e1 e2; subst e1; subst e2; rfl
    | sliceN => cases hb; rfl
    | slice k o b1 s1 l c x h1 => cases hb with | slice _ _ b2 s2 _ _ _ h2 => rw [h1] at h2; injection h2 with h2; injection h2 with e1 e2; subst e1; subst e2; rfl
    | sliceE => simp [solid] at h
    | mapN => cases hb; rfl
    | map k b1 s1 h1 => cases hb with | map _ b2 s2 h2 => rw [h1] at h2; injection h2 with h2; injection h2 with e1 e2; subst e1; rfl
    | func fn f c f1 c1 h1 h2 =>
      cases hb with | func _ _ _ f2 c2 g1 g2 =>
      simp only [solid, Bool.and_eq_true] at h
      rw [hl _ _ _ h.1 h1 g1, hl _ _ _ h.2 h2 g2]
    | nilFunc => cases hb; rfl
    | iface t v v1 h1 => cases hb with | iface _ _ v2 h2 => rw [ih v v1 v2 (by simpa [solid] using h) h1 h2]
    | nilIface => cases hb; rfl
    | agg cs c1 h1 => cases hb with | agg _ c2 h2 => rw [hl _ _ _ (by simpa [solid] using h) h1 h2]
    | tuple cs c1 h1 => cases hb with | tuple _ c2 h2 => rw [hl _ _ _ (by simpa [solid] using h) h1 h2]

section
variable {η : Env} {φ : Place}
theorem VRs.length : ∀ {l : List V} {l' : List Value}, VRs η φ l l' → l.length = l'.length
  | _, _, .nil => rfl
  | _, _, .cons _ _ _ _ _ t => by simp [VRs.length t]
theorem VRs.get : ∀ {l : List V} {l' : List Value} (_ : VRs η φ l l') (i : Nat) (v : V), l[i]? = some v → ∃ v', l'[i]? = some v' ∧ VR η φ v v'
  | _, _, .nil, i, v, h => by simp at h
  | _, _, .cons a a' l l' h t, 0, v, e => by simp at e; subst e; exact ⟨a', by simp, h⟩
  | _, _, .cons a a' l l' h t, i + 1, v, e => by simpa using VRs.get t i v (by simpa using e)
theorem VRs.append : ∀ {a : List V} {a' : List Value} {b : List V} {b' : List Value}, VRs η φ a a' → VRs η φ b b' → VRs η φ (a ++ b) (a' ++ b')
  | _, _, _, _, .nil, hb => hb
  | _, _, _, _, .cons v v' l l' h t, hb => .cons v v' _ _ h (VRs.append t hb)
theorem VRs.take : ∀ {l : List V} {l' : List Value} (n : Nat), VRs η φ l l' → VRs η φ (l.take n) (l'.take n)
  | _, _, 0, _ => by simpa using VRs.nil
  | _, _, n + 1, .nil => by simpa using VRs.nil
  | _, _, n + 1, .cons v v' l l' h t => by simpa using VRs.cons v v' _ _ h (VRs.take n t)
theorem VRs.drop : ∀ {l : List V} {l' : List Value} (n : Nat), VRs η φ l l' → VRs η φ (l.drop n) (l'.drop n)
  | _, _, 0, h => by simpa using h
  | _, _, n + 1, .nil => by simpa using VRs.nil
  | _, _, n + 1, .cons v v' l l' h t => by simpa using VRs.drop n t
theorem VRs.set : ∀ {l : List V} {l' : List Value} (i : Nat) {v : V} {v' : Value}, VRs η φ l l' → VR η φ v v' → VRs η φ (l.set i v) (l'.set i v')
  | _, _, i, _, _, .nil, _ => by simpa using VRs.nil
  | _, _, 0, _, _, .cons a a' l l' h t, hv => by simpa using VRs.cons _ _ _ _ hv t
  | _, _, i + 1, _, _, .cons a a' l l' h t, hv => by simpa using VRs.cons _ _ _ _ h (VRs.set i t hv)
theorem VRs.replicate {v : V} {v' : Value} (h : VR η φ v v') : ∀ n, VRs η φ (List.replicate n v) (List.replicate n v')
  | 0 => .nil
  | n + 1 => .cons _ _ _ _ h (VRs.replicate h n)
theorem VRs.single {v : V} {v' : Value} (h : VR η φ v v') : VRs η φ [v] [v'] := .cons _ _ _ _ h .nil
end

/-! ### One cell -/
def V.one : V → Bool
  | .agg _ | .tuple _ => false
  | _ => true
theorem VR.one {η : Env} {φ : Place} {v : V} {v' : Value} (h : VR η φ v v') (ho : v.one = true) : v'.oneCell' = true := by
  cases h <;> simp_all [V.one, Value.oneCell']
def V.cells : V → List V
  | .agg cs => cs
  | v => [v]
theorem VR.cells {η : Env} {φ : Place} {v : V} {v' : Value} (h : VR η φ v v') : VRs η φ v.cells v'.cells.toList := by
  cases h with
  | agg cs cs' h => simpa [V.cells, Value.cells] using h
  | _ => first | exact VRs.single (by assumption) | (refine VRs.single ?_; constructor <;> assumption)

/-! ### Constants -/
def ofSc : Value → Option V
  | .bool b => some (.bool (.lit b))
  | .int k n => some (.int k (.lit n))
  | .string s => some (.str (.lit s.data.toList))
  | .pointer none => some (.ptr none)
  | .slice none l c => some (.slice none l c true)
  | .map none => some (.map none)
  | .nilFunc => some .nilFunc
  | .nilIface => some .nilIface
  | .func fn ⟨[]⟩ ⟨[]⟩ => some (.func fn [] [])
  | .tuple ⟨[]⟩ => some (.tuple [])
  | _ => none
def ofScs : List Value → Option (List V)
  | [] => some []
  | v :: l => match ofSc v with
    | none => none
    | some x => match ofScs l with
      | none => none
      | some xs => some (x :: xs)
def ofVal : Value → Option V
  | .agg cs => match ofScs cs.toList with
    | none => none
    | some l => some (.agg l)
  | v => ofSc v
theorem ofSc_vr {η : Env} {φ : Place} {v : Value} {x : V} (h : ofSc v = some x) : VR η φ x v := by
  unfold ofSc at h
  split at h <;> simp at h <;> subst h
  · exact .bool _
  · exact .int _ _
  · rename_i s; exact (VR.str (.lit s.data.toList) : VR η φ _ (.string ⟨s.data.toList.toArray⟩))
  · exact .ptrN
  · exact .sliceN _ _ _
  · exact .mapN
  · exact .nilFunc
  · exact .nilIface
  · exact .func _ [] [] [] [] .nil .nil
  · exact .tuple [] [] .nil
theorem ofScs_vr {η : Env} {φ : Place} : ∀ {l : List Value} {xs : List V}, ofScs l = some xs → VRs η φ xs l
  | [], xs, h => by simp [ofScs] at h; subst h; exact .nil
  | v :: l, xs, h => by
    unfold ofScs at h
    split at h
    · simp at h
    · rename_i x hx
      split at h
      · simp at h
      · rename_i ys hy
        simp at h; subst h
        exact .cons _ _ _ _ (ofSc_vr hx) (ofScs_vr hy)
theorem ofVal_vr {η : Env} {φ : Place} {v : Value} {x : V} (h : ofVal v = some x) : VR η φ x v := by
  unfold ofVal at h
  split at h
  · rename_i cs
    split at h
    · simp at h
    · rename_i l hl
      simp at h; subst h
      have := VR.agg (η := η) (φ := φ) l cs.toList (ofScs_vr hl)
      simpa using this
  · exact ofSc_vr h

end Go.Proofs.YtbobnbndbgpanaaGreat.Sx
