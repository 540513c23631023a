/- The executor's operations on slices: slicing, making, copying, appending. -/
import Derived.Test.YtbobnbndbgpanaaGreatSzMem
namespace Go.Proofs.YtbobnbndbgpanaaGreat.Sx
open Go
set_option linter.unusedVariables false
set_option linter.unusedSimpArgs false
noncomputable section

section
variable {η : Env} {φ : Place} {W : World} {P : Program}

/-! ### Slicing -/
def litOf (a : Regs) (d : Nat) : Option Operand → Option Nat
  | none => some d
  | some x => match evalO a x with
    | some (.int _ (.lit n)) => if 0 ≤ n then some n.toNat else none
    | _ => none
theorem bound_ok {a : Regs} {A : Act} (ha : AR η φ a A) {x : Operand} {d n : Nat} (h : litOf a d (some x) = some n) (y : Nat) (hy : n ≤ y) (code : BoundsCode) (W : World) :
    (Instr.sliceBound (A.eval x) y code).run P W = .ok n W := by
  unfold litOf at h
  simp only at h
  split at h
  · rename_i k z hx
    split at h
    · rename_i hz
      simp only [Option.some.injEq] at h; subst h
      have hv := evalO_vr ha hx
      generalize A.eval x = v at hv
      cases hv
      have h2 : (0 : Int) ≤ z ∧ z ≤ (y : Int) := ⟨hz, by omega⟩
      simp [Instr.sliceBound, asIntOf, E.den, h2]
    · simp at h
  · simp at h
def okM (m cap : Nat) : Option Operand → Bool
  | none => true
  | some _ => Nat.ble m cap
/-- The bounds: from where, to where. -/
def boundsOf (a : Regs) (len cap : Nat) (lo hi mx : Option Operand) : Option (Nat × Nat × Nat) :=
  match litOf a cap mx with
  | some m => match (match hi, mx with | none, some _ => none | _, _ => litOf a len hi) with
    | some h => match litOf a 0 lo with
      | some l => if l ≤ h ∧ h ≤ m ∧ okM m cap mx = true then some (l, h, m) else none
      | none => none
    | none => none
  | none => none
/-- Where there is no third bound, what room there is does not matter to the first two. -/
theorem bounds_ok {a : Regs} {A : Act} (ha : AR η φ a A) {len cap : Nat} {lo hi mx : Option Operand} {l h m : Nat} (hb : boundsOf a len cap lo hi mx = some (l, h, m)) (_ : len ≤ cap) (isS : Bool) (more : Nat) (W : World) :
    (Instr.sliceBounds isS len (cap + more) (lo.map A.eval) (hi.map A.eval) (mx.map A.eval)).run P W = .ok (l, h, if mx.isSome then m else cap + more) W ∧ (mx.isSome = false → m = cap) ∧ l ≤ h ∧ h ≤ m ∧ m ≤ cap := by
  unfold boundsOf at hb
  split at hb
  case h_2 => simp at hb
  rename_i m0 hm
  split at hb
  case h_2 => simp at hb
  rename_i h0 hh
  split at hb
  case h_2 => simp at hb
  rename_i l0 hlo
  split at hb
  case isFalse => simp at hb
  rename_i hc
  have hmc : m0 ≤ cap := by
    cases mx with
    | none => simp only [litOf, Option.some.injEq] at hm; omega
    | some x => exact Nat.le_of_ble_eq_true hc.2.2
  replace hc : l0 ≤ h0 ∧ h0 ≤ m0 ∧ m0 ≤ cap := ⟨hc.1, hc.2.1, hmc⟩
  simp only [Option.some.injEq, Prod.mk.injEq] at hb
  obtain ⟨rfl, rfl, rfl⟩ := hb
  obtain ⟨c1, c2, c3⟩ := hc
  cases mx with
  | none =>
    simp only [litOf, Option.some.injEq] at hm; subst hm
    refine ⟨?_, fun _ => rfl, c1, c2, c3⟩
    cases hi with
    | none =>
      simp only [litOf, Option.some.injEq] at hh; subst hh
      cases lo with
      | none => simp only [litOf, Option.some.injEq] at hlo; subst hlo; simp [Instr.sliceBounds]
      | some x => simp [Instr.sliceBounds, bound_ok (P := P) ha hlo len c1]
    | some y =>
      have e := bound_ok (P := P) ha (d := len) hh (cap + more) (by omega)
      cases lo with
      | none => simp only [litOf, Option.some.injEq] at hlo; subst hlo; simp [Instr.sliceBounds, e]
      | some x => simp [Instr.sliceBounds, e, bound_ok (P := P) ha hlo h0 c1]
  | some z =>
    have em := bound_ok (P := P) ha (d := cap) hm (cap + more) (by omega)
    refine ⟨?_, by simp, c1, c2, c3⟩
    cases hi with
    | none => simp at hh
    | some y =>
      have e := bound_ok (P := P) ha (d := len) hh m0 c2
      cases lo with
      | none => simp only [litOf, Option.some.injEq] at hlo; subst hlo; simp [Instr.sliceBounds, e, em]
      | some x => simp [Instr.sliceBounds, e, em, bound_ok (P := P) ha hlo h0 c1]

def opSlice (P : Program) (a : Regs) (st : St) (t : TypeId) (x : Operand) (lo hi mx : Option Operand) : T R :=
  match P.underlying t, evalO a x with
  | some .string, some (.str (.lit s)) => match mx, boundsOf a s.length s.length lo hi none with
    | none, some (l, h, _) => .ret (.val (.str (.lit ((s.take h).drop l))) st)
    | _, _ => .fail 120
  | some (.slice el), some (.slice none 0 0 true) => match szOf P el, boundsOf a 0 0 lo hi mx with
    | some _, some _ => .ret (.val (.slice none 0 0 true) st)
    | _, _ => .fail 121
  | some (.slice el), some (.slice (some (k, o)) len cap ex) => match szOf P el, boundsOf a len cap lo hi mx with
    | some sz, some (l, h, m) =>
      if len ≤ cap then
        if ex || mx.isSome then .ret (.val (.slice (some (k, if m = l then o else o + l * sz)) (h - l) (m - l) true) st)
        else if l = 0 ∨ l < cap then .ret (.val (.slice (some (k, o + l * sz)) (h - l) (cap - l) false) st)
        else .ret (.val .sliceE st)
      else .fail 122
    | _, _ => .fail 122
  | some (.array n el), some (.ptr (some (k, o))) => match szOf P el, boundsOf a n n lo hi mx with
    | some sz, some (l, h, m) => .ret (.val (.slice (some (k, if m = l then o else o + l * sz)) (h - l) (m - l) true) st)
    | _, _ => .fail 123
  | _, _ => .fail 124
theorem opSlice_ok {a : Regs} {A : Act} {st : St} {t : TypeId} {x : Operand} {lo hi mx : Option Operand} {r : R} (ha : AR η φ a A) (hs : SR η φ st W) (h : (opSlice P a st t x lo hi mx).sel η = some r) :
    ResF η φ W r ((do pure (.value (← Instr.sliceAt t (A.eval x) (lo.map A.eval) (hi.map A.eval) (mx.map A.eval))) : Sem Next).run P W) := by
  unfold opSlice at h
  split at h
  · rename_i s hu hx
    split at h
    · rename_i l hh m hb
      simp only [T.sel, Option.some.injEq] at h; subst h
      have hv := evalO_vr ha hx
      generalize A.eval x = v at hv
      cases hv
      obtain ⟨h1, h2, h3, h4, h5⟩ := bounds_ok (P := P) ha hb (Nat.le_refl _) false 0 W
      have hz : (S.den η (.lit s)).size = s.length := lit_size s
      refine ResF.here (v' := .string (S.den η (.lit ((s.take hh).drop l)))) ?_ (VR.str _) hs
      simp only [Nat.add_zero] at h1
      simp only [Instr.sliceAt, Sem.run_bind, run_underlying hu, Result.andThen_ok, Instr.slice, Option.map_none, Option.isSome_none, Bool.false_eq_true, if_false, hz]
      simp only [Option.map_none, Option.isSome_none, Bool.false_eq_true, if_false] at h1
      simp only [h1, Result.andThen_ok, Sem.run_pure]
      congr 3
      apply ByteArray.ext
      simp [S.den, List.drop_take]
    · simp [T.sel] at h
  · rename_i el hu hx
    split at h
    · rename_i sz bb hsz hb
      simp only [T.sel, Option.some.injEq] at h; subst h
      have hv := evalO_vr ha hx
      generalize A.eval x = v at hv
      cases hv
      obtain ⟨l, hh, m⟩ := bb
      obtain ⟨h1, h2, h3, h4, h5⟩ := bounds_ok (P := P) ha hb (Nat.le_refl _) true 0 W
      obtain rfl : m = 0 := by omega
      obtain rfl : hh = 0 := by omega
      obtain rfl : l = 0 := by omega
      refine ResF.here (v' := .slice none 0 0) ?_ (VR.sliceN 0 0 true) hs
      simp only [Nat.add_zero] at h1
      simp [Instr.sliceAt, run_underlying hu, Instr.slice, h1, run_sizeOf hsz]
    · simp [T.sel] at h
  · rename_i el k o len cap ex hu hx
    split at h
    · rename_i sz l hh m hsz hb
      split at h
      case isFalse => simp [T.sel] at h
      rename_i hlc
      have hv := evalO_vr ha hx
      generalize A.eval x = v at hv
      cases hv with
      | slice k o b s l1 c1 x1 hφ =>
      cases ex with
      | true =>
        simp only [Bool.true_or, if_true, T.sel, Option.some.injEq] at h; subst h
        obtain ⟨h1, h2, h3, h4, h5⟩ := bounds_ok (P := P) ha hb hlc true 0 W
        simp only [Nat.add_zero] at h1
        have em : (if mx.isSome = true then m else cap) = m := by
          split
          · rfl
          · rename_i e; exact (h2 (by simpa using e)).symm
        rw [em] at h1
        refine ResF.here (v' := .slice (some ⟨b, s.1 + (if m = l then o else o + l * sz), none⟩) (hh - l) (m - l)) ?_ (VR.slice k _ b s _ _ true hφ) hs
        simp only [Instr.sliceAt, Sem.run_bind, run_underlying hu, Result.andThen_ok, Instr.slice, if_true, h1, run_sizeOf hsz, Sem.run_pure, Option.map_some]
        by_cases e : m = l
        · simp [e]
        · simp [e, add_at]
      | false =>
        obtain ⟨h1, h2, h3, h4, h5⟩ := bounds_ok (P := P) ha hb hlc true s.2 W
        cases hmx : mx.isSome with
        | true =>
          simp only [hmx, Bool.false_or, if_true, T.sel, Option.some.injEq] at h; subst h
          rw [hmx] at h1
          simp only [if_true] at h1
          refine ResF.here (v' := .slice (some ⟨b, s.1 + (if m = l then o else o + l * sz), none⟩) (hh - l) (m - l)) ?_ (VR.slice k _ b s _ _ true hφ) hs
          simp only [Instr.sliceAt, Sem.run_bind, run_underlying hu, Result.andThen_ok, Instr.slice, Bool.false_eq_true, if_false, h1, run_sizeOf hsz, Sem.run_pure, Option.map_some]
          by_cases e : m = l
          · simp [e]
          · simp [e, add_at]
        | false =>
          obtain rfl := h2 hmx
          rw [hmx] at h1
          simp only [Bool.false_eq_true, if_false] at h1
          simp only [hmx, Bool.or_self, Bool.false_eq_true, if_false] at h
          split at h
          · rename_i hcase
            simp only [T.sel, Option.some.injEq] at h; subst h
            refine ResF.here (v' := .slice (some ⟨b, s.1 + (o + l * sz), none⟩) (hh - l) (m - l + s.2)) ?_ (VR.slice k _ b s _ _ false hφ) hs
            simp only [Instr.sliceAt, Sem.run_bind, run_underlying hu, Result.andThen_ok, Instr.slice, Bool.false_eq_true, if_false, h1, run_sizeOf hsz, Sem.run_pure, Option.map_some]
            have e2 : m + s.2 - l = m - l + s.2 := by omega
            rw [e2]
            by_cases e : m + s.2 = l
            · obtain rfl : l = 0 := by omega
              simp [e]
            · simp [e, add_at]
          · simp only [T.sel, Option.some.injEq] at h; subst h
            have : hh - l = 0 := by omega
            refine ResF.here ?_ (VR.sliceE (some (if m + s.2 = l then ⟨b, s.1 + o, none⟩ else (⟨b, s.1 + o, none⟩ : Addr).add (l * sz))) (m + s.2 - l)) hs
            simp only [Instr.sliceAt, Sem.run_bind, run_underlying hu, Result.andThen_ok, Instr.slice, Bool.false_eq_true, if_false, h1, run_sizeOf hsz, Sem.run_pure, Option.map_some, this]
            split <;> rfl
    · simp [T.sel] at h
  · rename_i n el k o hu hx
    split at h
    · rename_i sz l hh m hsz hb
      simp only [T.sel, Option.some.injEq] at h; subst h
      have hv := evalO_vr ha hx
      generalize A.eval x = v at hv
      cases hv with
      | ptr k o b s hφ =>
      obtain ⟨h1, h2, h3, h4, h5⟩ := bounds_ok (P := P) ha hb (Nat.le_refl _) false 0 W
      simp only [Nat.add_zero] at h1
      have em : (if mx.isSome = true then m else n) = m := by
        split
        · rfl
        · rename_i e; exact (h2 (by simpa using e)).symm
      rw [em] at h1
      refine ResF.here (v' := .slice (some ⟨b, s.1 + (if m = l then o else o + l * sz), none⟩) (hh - l) (m - l)) ?_ (VR.slice k _ b s _ _ true hφ) hs
      simp only [Instr.sliceAt, Sem.run_bind, run_underlying hu, Result.andThen_ok, Instr.sureAddr, h1, run_sizeOf hsz, Sem.run_pure]
      by_cases e : m = l
      · simp [e]
      · simp [e, add_at]
    · simp [T.sel] at h
  · simp [T.sel] at h
end
end
end Go.Proofs.YtbobnbndbgpanaaGreat.Sx
