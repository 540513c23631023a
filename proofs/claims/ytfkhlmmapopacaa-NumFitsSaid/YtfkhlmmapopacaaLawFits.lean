/- The law NumFits returns true for every input. -/
import Derived.Test.YtfkhlmmapopacaaFitsC
namespace Go.Proofs.Ytfkhlmmapopacaa.Sx
open Go Go.RowKit
set_option linter.unusedVariables false
set_option maxRecDepth 100000
theorem fits_end (η : Env) (h : η.fi = fitsF) (h' : η.fb = kG) (x p q y z : Bool) (hsum : SumOk η Try.prog (sumF x p q y z)) (hfacts : ∀ r ∈ fitFacts x p q y z, r.1.den η = r.2) (hy : FitYes η x p q y z) {a0 a1 a2 : Int}
    (hargs : VRs η noPlace [.int .i64 (.var 0), .int .i64 (.var 1), .int .i64 (.var 2)] [.int .i64 a0, .int .i64 a1, .int .i64 a2]) (W : World) :
    Calls Try.prog 7 #[.int .i64 a0, .int .i64 a1, .int .i64 a2] W fun e W' => e = .returned (.bool true) ∧ Below W.heap.size W W' :=
  law_yes (plain_of (by kernel_rfl)) (by kernel_rfl) hsum hargs hfacts hy W
theorem fits_any (η : Env) (h : η.fi = fitsF) (h' : η.fb = kG) (a0 a1 a2 : Int) (e0 : η.i 0 = a0) (e1 : η.i 1 = a1) (e2 : η.i 2 = a2) (W : World) :
    Calls Try.prog 7 #[.int .i64 a0, .int .i64 a1, .int .i64 a2] W fun e W' => e = .returned (.bool true) ∧ Below W.heap.size W W' := by
  have hK6 : fK.den η = 3 ∨ fK.den η = 4 ∨ fK.den η = 5 ∨ fK.den η = 6 ∨ fK.den η = 7 ∨ fK.den η = 8 := K_cases (η.i 0)
  have hK : kI (fK.den η) = true := kI_of hK6
  have eA : fA.den η = kW (fK.den η) (η.i 1) := by simp only [fA, E.den, h]; rfl
  have eB : fB.den η = kW (fK.den η) (η.i 2) := by simp only [fB, E.den, h]; rfl
  have hA : ok (fK.den η) (fA.den η) := by rw [eA]; exact (ok_iff _ _).2 ⟨hK, kW_in _ _⟩
  have hB : ok (fK.den η) (fB.den η) := by rw [eB]; exact (ok_iff _ _).2 ⟨hK, kW_in _ _⟩
  obtain ⟨s, hs⟩ : ∃ s : Nat → Bool, ∀ c, s c = true ↔ ¬ sgF c (fK.den η) (fA.den η) (fB.den η) = 0 := ⟨fun c => decide (¬ sgF c (fK.den η) (fA.den η) (fB.den η) = 0), fun c => decide_eq_true_iff⟩
  have fine : ∀ c, s c = false → sgF c (fK.den η) (fA.den η) (fB.den η) = 0 := fun c h =>
    Decidable.byContradiction fun e => Bool.noConfusion (h.symm.trans ((hs c).2 e))
  have hf : ∀ c, flt (s 0) (s 1) (s 2) (s 3) (s 8) c = true → ¬ sgF c (fK.den η) (fA.den η) (fB.den η) = 0 ∧ c < 10 := by
    intro c hc
    unfold flt at hc
    split at hc
    · rename_i e; subst e; exact ⟨(hs _).1 hc, by omega⟩
    split at hc
    · rename_i e; subst e; exact ⟨(hs _).1 hc, by omega⟩
    split at hc
    · rename_i e; subst e; exact ⟨(hs _).1 hc, by omega⟩
    split at hc
    · rename_i e; subst e; exact ⟨(hs _).1 hc, by omega⟩
    split at hc
    · rename_i e; subst e; exact ⟨(hs _).1 hc, by omega⟩
    exact Bool.noConfusion hc
  have hc : ∀ c, flt (s 0) (s 1) (s 2) (s 3) (s 8) (sgM c) = true → sgV c (fK.den η) (fA.den η) (fB.den η) = 0 := by
    intro c h
    have := (hf _ h).1
    rw [sgM_F] at this
    exact flt_val _ _ _ _ this
  have ff : ∀ c, 5 ≤ c → c ≤ 7 → sgF c (fK.den η) (fA.den η) (fB.den η) = 0 := by
    intro c h1 h2
    obtain rfl | rfl | rfl : c = 5 ∨ c = 6 ∨ c = 7 := by omega
    all_goals simp only [sgF, if_pos hA, if_pos hB]
  have hn : ∀ c, c < 10 → flt (s 0) (s 1) (s 2) (s 3) (s 8) (sgM c) = false → sgF c (fK.den η) (fA.den η) (fB.den η) = 0 := by
    intro c h10 h
    rw [← sgM_F]
    by_cases e0 : sgM c = 0
    · rw [e0] at h ⊢; exact fine 0 h
    by_cases e1 : sgM c = 1
    · rw [e1] at h ⊢; exact fine 1 h
    by_cases e2 : sgM c = 2
    · rw [e2] at h ⊢; exact fine 2 h
    by_cases e3 : sgM c = 3
    · rw [e3] at h ⊢; exact fine 3 h
    by_cases e8 : sgM c = 8
    · rw [e8] at h ⊢; exact fine 8 h
    have := sgM_mid c h10 e0 e1 e2 e3 e8
    exact ff _ this.1 this.2
  have hsum := sumF_ok η (s 0) (s 1) (s 2) (s 3) (s 8) h h' hc hn
  have hfacts := facts_ok η _ _ _ _ _ h h' hK hA hB hf
  clear hc hn hf ff fine
  rw [eA, eB] at hs
  rw [eA] at hA; rw [eB] at hB
  have hy := fits_yes η h hA hB (s 0) (s 1) (s 2) (s 3) (s 8) (hs 0) (hs 3)
  have hargs : VRs η noPlace [.int .i64 (.var 0), .int .i64 (.var 1), .int .i64 (.var 2)] [.int .i64 a0, .int .i64 a1, .int .i64 a2] := by
    subst e0 e1 e2; exact .cons _ _ _ _ (.int _ (.var 0)) (.cons _ _ _ _ (.int _ (.var 1)) (.cons _ _ _ _ (.int _ (.var 2)) .nil))
  exact fits_end η h h' _ _ _ _ _ hsum hfacts hy hargs W
theorem fits_walk (a0 a1 a2 : Int) (w0 : (Lit.int .i64 a0).wf = true) (w1 : (Lit.int .i64 a1).wf = true) (w2 : (Lit.int .i64 a2).wf = true) (W : World) :
    Calls Try.prog 7 #[.int .i64 a0, .int .i64 a1, .int .i64 a2] W fun e W' => e = .returned (.bool true) ∧ Below W.heap.size W W' :=
  fits_any { i := fun n => if n = 0 then a0 else if n = 1 then a1 else a2, fi := fitsF, fb := kG } rfl rfl a0 a1 a2 rfl rfl rfl W
end Go.Proofs.Ytfkhlmmapopacaa.Sx
