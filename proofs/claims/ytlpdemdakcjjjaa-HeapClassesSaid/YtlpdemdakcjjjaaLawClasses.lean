/- The walk of HeapClasses. -/
import Derived.Test.YtlpdemdakcjjjaaProg
import Derived.Test.YtlpdemdakcjjjaaSxSum
import Derived.Test.YtlpdemdakcjjjaaCClass
namespace Go.Proofs.Ytlpdemdakcjjjaa.Sx
open Go Go.RowKit
set_option linter.unusedVariables false
set_option linter.unusedSimpArgs false
set_option maxRecDepth 100000

def classesT : T V := (.node (.cmp .gtr (.bits .and .i64 (.var 0) (.lit 127)) (.bits .and .i64 (.var 1) (.lit 127))) (.node (.cmp .eql (.fn 3 (.bits .and .i64 (.var 1) (.lit 127)) (.lit 0) (.lit 0)) (.lit 0)) (.node (.cmp .eql (.fn 3 (.bits .and .i64 (.var 0) (.lit 127)) (.lit 0) (.lit 0)) (.lit 0)) (.node (.cmp .leq (.fn 0 (.bits .and .i64 (.var 1) (.lit 127)) (.lit 0) (.lit 0)) (.fn 0 (.bits .and .i64 (.var 0) (.lit 127)) (.lit 0) (.lit 0))) (.node (.cmp .leq (.fn 1 (.bits .and .i64 (.var 1) (.lit 127)) (.lit 0) (.lit 0)) (.fn 1 (.bits .and .i64 (.var 0) (.lit 127)) (.lit 0) (.lit 0))) (.node (.cmp .geq (.fn 2 (.bits .and .i64 (.var 1) (.lit 127)) (.lit 0) (.lit 0)) (.fn 2 (.bits .and .i64 (.var 0) (.lit 127)) (.lit 0) (.lit 0))) (.node (.eqb (.cmp .eql (.fn 0 (.bits .and .i64 (.var 1) (.lit 127)) (.lit 0) (.lit 0)) (.fn 0 (.bits .and .i64 (.var 0) (.lit 127)) (.lit 0) (.lit 0))) (.cmp .eql (.fn 1 (.bits .and .i64 (.var 1) (.lit 127)) (.lit 0) (.lit 0)) (.fn 1 (.bits .and .i64 (.var 0) (.lit 127)) (.lit 0) (.lit 0)))) (.node (.cmp .geq (.fn 1 (.bits .and .i64 (.var 1) (.lit 127)) (.lit 0) (.lit 0)) (.bits .and .i64 (.var 1) (.lit 127))) (.node (.cmp .geq (.fn 1 (.bits .and .i64 (.var 0) (.lit 127)) (.lit 0) (.lit 0)) (.bits .and .i64 (.var 0) (.lit 127))) (.ret (.bool (.lit true))) (.ret (.bool (.lit false)))) (.ret (.bool (.lit false)))) (.ret (.bool (.lit false)))) (.ret (.bool (.lit false)))) (.ret (.bool (.lit false)))) (.ret (.bool (.lit false)))) (.ret (.bool (.lit false)))) (.ret (.bool (.lit false)))) (.node (.cmp .eql (.fn 3 (.bits .and .i64 (.var 0) (.lit 127)) (.lit 0) (.lit 0)) (.lit 0)) (.node (.cmp .eql (.fn 3 (.bits .and .i64 (.var 1) (.lit 127)) (.lit 0) (.lit 0)) (.lit 0)) (.node (.cmp .leq (.fn 0 (.bits .and .i64 (.var 0) (.lit 127)) (.lit 0) (.lit 0)) (.fn 0 (.bits .and .i64 (.var 1) (.lit 127)) (.lit 0) (.lit 0))) (.node (.cmp .leq (.fn 1 (.bits .and .i64 (.var 0) (.lit 127)) (.lit 0) (.lit 0)) (.fn 1 (.bits .and .i64 (.var 1) (.lit 127)) (.lit 0) (.lit 0))) (.node (.cmp .geq (.fn 2 (.bits .and .i64 (.var 0) (.lit 127)) (.lit 0) (.lit 0)) (.fn 2 (.bits .and .i64 (.var 1) (.lit 127)) (.lit 0) (.lit 0))) (.node (.eqb (.cmp .eql (.fn 0 (.bits .and .i64 (.var 0) (.lit 127)) (.lit 0) (.lit 0)) (.fn 0 (.bits .and .i64 (.var 1) (.lit 127)) (.lit 0) (.lit 0))) (.cmp .eql (.fn 1 (.bits .and .i64 (.var 0) (.lit 127)) (.lit 0) (.lit 0)) (.fn 1 (.bits .and .i64 (.var 1) (.lit 127)) (.lit 0) (.lit 0)))) (.node (.cmp .geq (.fn 1 (.bits .and .i64 (.var 0) (.lit 127)) (.lit 0) (.lit 0)) (.bits .and .i64 (.var 0) (.lit 127))) (.node (.cmp .geq (.fn 1 (.bits .and .i64 (.var 1) (.lit 127)) (.lit 0) (.lit 0)) (.bits .and .i64 (.var 1) (.lit 127))) (.ret (.bool (.lit true))) (.ret (.bool (.lit false)))) (.ret (.bool (.lit false)))) (.ret (.bool (.lit false)))) (.ret (.bool (.lit false)))) (.ret (.bool (.lit false)))) (.ret (.bool (.lit false)))) (.ret (.bool (.lit false)))) (.ret (.bool (.lit false)))))
theorem classes_eq : callTop Try.prog classSum 60 3 [.int .i64 (.var 0), .int .i64 (.var 1)] [] = classesT := by kernel_rfl
theorem and_127 (x : Int) : bitsI .and .i64 x 127 = x % 128 := bits_and_mask x 7 (by omega)
theorem classes_good (η : Env) (h : η.fi = classF) : classesT.good η := by
  simp only [classesT, T.good, B.prop, E.den, propI, and_127, h]
  have ha : 0 ≤ η.i 0 % 128 ∧ η.i 0 % 128 < 128 := by omega
  have hb : 0 ≤ η.i 1 % 128 ∧ η.i 1 % 128 < 128 := by omega
  generalize η.i 0 % 128 = x at *
  generalize η.i 1 % 128 = y at *
  have e : ∀ w, classF 0 w 0 0 = clsK w ∧ classF 1 w 0 0 = clsS w ∧ classF 2 w 0 0 = clsB w ∧ classF 3 w 0 0 = clsE w := fun w => ⟨rfl, rfl, rfl, rfl⟩
  simp only [e]
  have hx : (clsK x = 0 ∧ clsS x = 4 ∧ clsB x = 64 ∧ clsE x = 0 ∧ x ≤ 4) ∨ (clsK x = 1 ∧ clsS x = 16 ∧ clsB x = 32 ∧ clsE x = 0 ∧ 4 < x ∧ x ≤ 16) ∨ (clsK x = 2 ∧ clsS x = 64 ∧ clsB x = 16 ∧ clsE x = 0 ∧ 16 < x ∧ x ≤ 64) ∨ (clsK x = 3 ∧ clsS x = 128 ∧ clsB x = 8 ∧ clsE x = 0 ∧ 64 < x) := by
    unfold clsK clsS clsB clsE; repeat' split
    all_goals omega
  have hy : (clsK y = 0 ∧ clsS y = 4 ∧ clsB y = 64 ∧ clsE y = 0 ∧ y ≤ 4) ∨ (clsK y = 1 ∧ clsS y = 16 ∧ clsB y = 32 ∧ clsE y = 0 ∧ 4 < y ∧ y ≤ 16) ∨ (clsK y = 2 ∧ clsS y = 64 ∧ clsB y = 16 ∧ clsE y = 0 ∧ 16 < y ∧ y ≤ 64) ∨ (clsK y = 3 ∧ clsS y = 128 ∧ clsB y = 8 ∧ clsE y = 0 ∧ 64 < y) := by
    unfold clsK clsS clsB clsE; repeat' split
    all_goals omega
  generalize clsK x = kx at *
  generalize clsS x = sx at *
  generalize clsB x = bx at *
  generalize clsE x = ex at *
  generalize clsK y = ky at *
  generalize clsS y = sy at *
  generalize clsB y = by' at *
  generalize clsE y = ey at *
  repeat' first | apply And.intro | intro _
  all_goals first | trivial | omega
theorem classes_walk (a0 a1 : Int) (w0 : (Lit.int .i64 a0).wf = true) (w1 : (Lit.int .i64 a1).wf = true) (W : World) :
    Calls Try.prog 3 #[.int .i64 a0, .int .i64 a1] W fun e W' => e = .returned (.bool true) ∧ Below W.heap.size W W' := by
  refine law_ok (η := { i := fun n => if n = 0 then a0 else a1, fi := classF }) (plain_of (by kernel_rfl)) (by kernel_rfl) (classSum_ok _ rfl) (args := [.int .i64 (.var 0), .int .i64 (.var 1)]) (args' := [.int .i64 a0, .int .i64 a1])
    (.cons _ _ _ _ (.int _ _) (.cons _ _ _ _ (.int _ _) .nil)) (n := 60) facts_none ?_ W
  rw [classes_eq]
  exact T.good_yes (classes_good _ rfl)
end Go.Proofs.Ytlpdemdakcjjjaa.Sx
