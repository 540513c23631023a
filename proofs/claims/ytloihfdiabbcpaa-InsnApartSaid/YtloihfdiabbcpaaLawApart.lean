/- InsnApart: two unlike instructions have unlike words. -/
import Derived.Test.YtloihfdiabbcpaaProg
import Derived.Test.YtloihfdiabbcpaaSxSum
import Derived.Test.YtloihfdiabbcpaaInFin
namespace Go.Proofs.Ytloihfdiabbcpaa.Sx
open Go Go.RowKit
set_option linter.unusedVariables false
set_option linter.unusedSimpArgs false
set_option maxRecDepth 100000
def apartT : T V := (.node (.fn5 1 (.lit 45) (.lit 0) (.lit 0) (.lit 0) (.lit 0)) (.node (.fn5 1 (.var 100) (.var 0) (.var 1) (.var 2) (.var 3)) (.node (.fn5 1 (.var 101) (.var 4) (.var 5) (.var 6) (.var 7)) (.ret (.bool (.eqb (.cmp .eql (.fn5 1 (.var 100) (.var 0) (.var 1) (.var 2) (.var 3)) (.fn5 1 (.var 101) (.var 4) (.var 5) (.var 6) (.var 7))) (.and (.seq (.var 0) (.var 1)) (.and (.cmp .eql (.var 0) (.var 4)) (.and (.cmp .eql (.var 1) (.var 5)) (.and (.cmp .eql (.var 2) (.var 6)) (.cmp .eql (.var 3) (.var 7))))))))) (.ret (.bool (.lit true)))) (.ret (.bool (.lit true)))) (.ret (.bool (.lit false))))
theorem apart_eq : callTop Try.prog sumB 60 5 [.agg [.str (.var 0), .int .i64 (.var 0), .int .i64 (.var 1), .int .i64 (.var 2), .int .i64 (.var 3)], .agg [.str (.var 1), .int .i64 (.var 4), .int .i64 (.var 5), .int .i64 (.var 6), .int .i64 (.var 7)]] [] = apartT := by kernel_rfl
theorem apart_good {η : Env} (h : InEnv η) : apartT.good η := by
  simp only [apartT, T.good, B.prop, E.den, S.den, propI, h.fb5, h.fi5, eB, eI, show η.i 100 = (rowOf rowsL (η.s 0).toList : Int) from h.idx 0, show η.i 101 = (rowOf rowsL (η.s 1).toList : Int) from h.idx 1, Int.toNat_natCast]
  have hE : encB rowsL (Int.toNat 45) 0 0 0 0 = true := by kernel_rfl
  refine ⟨fun _ => ⟨fun hB => ⟨fun hC => ?_, fun _ => trivial⟩, fun _ => trivial⟩, fun hn => absurd hE hn⟩
  obtain ⟨r, hr, hm, hok, hI⟩ := enc_ok hB
  obtain ⟨_, hd, e3, e4, e5, e6⟩ := d1 hm hok hI.symm
  obtain ⟨r', hr', hm', hok', hI'⟩ := enc_ok hC
  obtain ⟨_, hd', e3', e4', e5', e6'⟩ := d1 hm' hok' hI'.symm
  have hn := row_name hr
  have hn' := row_name hr'
  constructor
  · intro e
    rw [← e] at hd' e3' e4' e5' e6'
    rw [hd] at hd'
    injection hd' with hd'
    subst hd'
    exact ⟨hn.symm.trans hn', e3.symm.trans e3', e4.symm.trans e4', e5.symm.trans e5', e6.symm.trans e6'⟩
  · rintro ⟨x0, x1, x2, x3, x4⟩
    rw [x0, x1, x2, x3, x4]
theorem apart_walk (s0 : ByteArray) (a0 a1 a2 a3 : Int) (s1 : ByteArray) (a4 a5 a6 a7 : Int) (W : World) :
    Calls Try.prog 5 #[.agg #[.string s0, .int .i64 a0, .int .i64 a1, .int .i64 a2, .int .i64 a3], .agg #[.string s1, .int .i64 a4, .int .i64 a5, .int .i64 a6, .int .i64 a7]] W fun e W' => e = .returned (.bool true) ∧ Below W.heap.size W W' := by
  refine law_ok (η := env2 (fun m => if m = 0 then a0 else if m = 1 then a1 else if m = 2 then a2 else if m = 3 then a3 else if m = 4 then a4 else if m = 5 then a5 else if m = 6 then a6 else a7) (fun j => if j = 0 then s0 else s1)) in_plain in_follows (sumB_ok _ (env2_ok _ _)) (n := 60) (args := [.agg [.str (.var 0), .int .i64 (.var 0), .int .i64 (.var 1), .int .i64 (.var 2), .int .i64 (.var 3)], .agg [.str (.var 1), .int .i64 (.var 4), .int .i64 (.var 5), .int .i64 (.var 6), .int .i64 (.var 7)]]) (args' := [.agg #[.string s0, .int .i64 a0, .int .i64 a1, .int .i64 a2, .int .i64 a3], .agg #[.string s1, .int .i64 a4, .int .i64 a5, .int .i64 a6, .int .i64 a7]])
    (.cons _ _ _ _ (.agg _ [.string s0, .int .i64 a0, .int .i64 a1, .int .i64 a2, .int .i64 a3] (.cons _ _ _ _ (.str (.var 0)) (.cons _ _ _ _ (.int _ (.var 0)) (.cons _ _ _ _ (.int _ (.var 1)) (.cons _ _ _ _ (.int _ (.var 2)) (.cons _ _ _ _ (.int _ (.var 3)) .nil)))))) (.cons _ _ _ _ (.agg _ [.string s1, .int .i64 a4, .int .i64 a5, .int .i64 a6, .int .i64 a7] (.cons _ _ _ _ (.str (.var 1)) (.cons _ _ _ _ (.int _ (.var 4)) (.cons _ _ _ _ (.int _ (.var 5)) (.cons _ _ _ _ (.int _ (.var 6)) (.cons _ _ _ _ (.int _ (.var 7)) .nil)))))) .nil)) facts_none ?_ W
  rw [apart_eq]; exact T.good_yes (apart_good (env2_ok _ _))
end Go.Proofs.Ytloihfdiabbcpaa.Sx
