/- The walk of NumDoes. -/
import Derived.Test.YtfkhlmmapopacaaProg
import Derived.Test.YtfkhlmmapopacaaSxSum
import Derived.Test.YtfkhlmmapopacaaDoNum
import Derived.Test.YtfkhlmmapopacaaDoRef
namespace Go.Proofs.Ytfkhlmmapopacaa.Sx
open Go Go.RowKit
set_option linter.unusedVariables false
set_option linter.unusedSimpArgs false
set_option maxRecDepth 100000
def doG : List V → Option V
  | [.str (.var 0), .int .i64 k, .int .i64 a, .int .i64 b] => some (.tuple [.int .i64 (.fn 20 k a b), .int .i64 (.fn 21 k a b)])
  | _ => none
def sumD : Summary := (Summary.put noSum 20 doG).put 21 doG
def doF (s : ByteArray) (i : Nat) (k a b : Int) : Int := if i = 20 then sgV (sgC s) k a b else sgF (sgC s) k a b
theorem four {η : Env} {φ : Place} {k k1 k2 : IntKind} {s : S} {e e1 e2 : E} {l : List Value} (h : VRs η φ [.str s, .int k e, .int k1 e1, .int k2 e2] l) : l = [.string (s.den η), .int k (e.den η), .int k1 (e1.den η), .int k2 (e2.den η)] := by
  cases h with | cons _ _ _ _ h t => cases t with | cons _ _ _ _ h1 t => cases t with | cons _ _ _ _ h2 t => cases t with | cons _ _ _ _ h3 t => cases t; cases h; cases h1; cases h2; cases h3; rfl
theorem sumD_ok (η : Env) (h : η.fi = doF (η.s 0)) : SumOk η Try.prog sumD := by
  refine SumOk.put (SumOk.put (noSum_ok _ _) ?_) ?_
  · intro args v hv φ args' W ha
    unfold doG at hv
    split at hv
    · rename_i k a b
      simp only [Option.some.injEq] at hv; subst hv
      rw [four ha]
      refine (do_calls (η.s 0) (k.den η) (a.den η) (b.den η) W).mono ?_
      rintro ex W' ⟨rfl, hb⟩
      refine ⟨_, rfl, fun φ => V.val_ok _ _ ?_, hb⟩
      simp only [V.val, V.vals, E.den, h]; rfl
    · simp at hv
  · intro args v hv φ args' W ha
    unfold doG at hv
    split at hv
    · rename_i k a b
      simp only [Option.some.injEq] at hv; subst hv
      rw [four ha]
      refine (rdo_calls (η.s 0) (k.den η) (a.den η) (b.den η) W).mono ?_
      rintro ex W' ⟨rfl, hb⟩
      refine ⟨_, rfl, fun φ => V.val_ok _ _ ?_, hb⟩
      simp only [V.val, V.vals, E.den, h]; rfl
    · simp at hv
def doesT : T V := (.node (.seq (.var 0) (.lit [61, 61])) (.node (.cmp .eql (.fn 20 (.var 0) (.var 1) (.var 2)) (.fn 20 (.var 0) (.var 1) (.var 2))) (.node (.cmp .eql (.fn 21 (.var 0) (.var 1) (.var 2)) (.fn 21 (.var 0) (.var 1) (.var 2))) (.node (.eqb (.cmp .eql (.var 1) (.var 2)) (.cmp .eql (.var 1) (.var 2))) (.ret (.bool (.lit true))) (.ret (.bool (.lit false)))) (.ret (.bool (.lit false)))) (.ret (.bool (.lit false)))) (.node (.seq (.var 0) (.lit [33, 61])) (.node (.cmp .eql (.fn 20 (.var 0) (.var 1) (.var 2)) (.fn 20 (.var 0) (.var 1) (.var 2))) (.node (.cmp .eql (.fn 21 (.var 0) (.var 1) (.var 2)) (.fn 21 (.var 0) (.var 1) (.var 2))) (.node (.eqb (.cmp .neq (.var 1) (.var 2)) (.cmp .neq (.var 1) (.var 2))) (.ret (.bool (.lit true))) (.ret (.bool (.lit false)))) (.ret (.bool (.lit false)))) (.ret (.bool (.lit false)))) (.node (.seq (.var 0) (.lit [60])) (.node (.cmp .eql (.fn 20 (.var 0) (.var 1) (.var 2)) (.fn 20 (.var 0) (.var 1) (.var 2))) (.node (.cmp .eql (.fn 21 (.var 0) (.var 1) (.var 2)) (.fn 21 (.var 0) (.var 1) (.var 2))) (.node (.eqb (.cmp .lss (.var 1) (.var 2)) (.cmp .lss (.var 1) (.var 2))) (.ret (.bool (.lit true))) (.ret (.bool (.lit false)))) (.ret (.bool (.lit false)))) (.ret (.bool (.lit false)))) (.node (.seq (.var 0) (.lit [60, 61])) (.node (.cmp .eql (.fn 20 (.var 0) (.var 1) (.var 2)) (.fn 20 (.var 0) (.var 1) (.var 2))) (.node (.cmp .eql (.fn 21 (.var 0) (.var 1) (.var 2)) (.fn 21 (.var 0) (.var 1) (.var 2))) (.node (.eqb (.cmp .leq (.var 1) (.var 2)) (.cmp .leq (.var 1) (.var 2))) (.ret (.bool (.lit true))) (.ret (.bool (.lit false)))) (.ret (.bool (.lit false)))) (.ret (.bool (.lit false)))) (.node (.seq (.var 0) (.lit [62])) (.node (.cmp .eql (.fn 20 (.var 0) (.var 1) (.var 2)) (.fn 20 (.var 0) (.var 1) (.var 2))) (.node (.cmp .eql (.fn 21 (.var 0) (.var 1) (.var 2)) (.fn 21 (.var 0) (.var 1) (.var 2))) (.node (.eqb (.cmp .gtr (.var 1) (.var 2)) (.cmp .gtr (.var 1) (.var 2))) (.ret (.bool (.lit true))) (.ret (.bool (.lit false)))) (.ret (.bool (.lit false)))) (.ret (.bool (.lit false)))) (.node (.seq (.var 0) (.lit [62, 61])) (.node (.cmp .eql (.fn 20 (.var 0) (.var 1) (.var 2)) (.fn 20 (.var 0) (.var 1) (.var 2))) (.node (.cmp .eql (.fn 21 (.var 0) (.var 1) (.var 2)) (.fn 21 (.var 0) (.var 1) (.var 2))) (.node (.eqb (.cmp .geq (.var 1) (.var 2)) (.cmp .geq (.var 1) (.var 2))) (.ret (.bool (.lit true))) (.ret (.bool (.lit false)))) (.ret (.bool (.lit false)))) (.ret (.bool (.lit false)))) (.node (.cmp .eql (.fn 20 (.var 0) (.var 1) (.var 2)) (.fn 20 (.var 0) (.var 1) (.var 2))) (.node (.cmp .eql (.fn 21 (.var 0) (.var 1) (.var 2)) (.fn 21 (.var 0) (.var 1) (.var 2))) (.ret (.bool (.lit true))) (.ret (.bool (.lit false)))) (.ret (.bool (.lit false))))))))))
theorem does_eq : callTop Try.prog sumD 60 8 [.agg [.str (.var 0), .int .i64 (.var 0), .int .i64 (.var 1), .int .i64 (.var 2)]] [] = doesT := by kernel_rfl
theorem does_good (η : Env) : doesT.good η := by
  simp only [doesT, T.good, B.prop, E.den, propI]
  repeat' first | apply And.intro | intro _
  all_goals first | trivial | omega | simp_all
theorem does_walk (s : ByteArray) (k a b : Int) (W : World) :
    Calls Try.prog 8 #[.agg #[.string s, .int .i64 k, .int .i64 a, .int .i64 b]] W fun e W' => e = .returned (.bool true) ∧ Below W.heap.size W W' := by
  refine law_ok (η := { i := fun n => if n = 0 then k else if n = 1 then a else b, s := fun _ => s, fi := doF s }) (plain_of (by kernel_rfl)) (by kernel_rfl) (sumD_ok _ rfl) (args := [.agg [.str (.var 0), .int .i64 (.var 0), .int .i64 (.var 1), .int .i64 (.var 2)]]) (args' := [.agg #[.string s, .int .i64 k, .int .i64 a, .int .i64 b]])
    (.cons _ _ _ _ (.agg _ [.string s, .int .i64 k, .int .i64 a, .int .i64 b] (.cons _ _ _ _ (.str _) (.cons _ _ _ _ (.int _ _) (.cons _ _ _ _ (.int _ _) (.cons _ _ _ _ (.int _ _) .nil))))) .nil) (n := 60) facts_none ?_ W
  rw [does_eq]
  exact T.good_yes (does_good _)
end Go.Proofs.Ytfkhlmmapopacaa.Sx
