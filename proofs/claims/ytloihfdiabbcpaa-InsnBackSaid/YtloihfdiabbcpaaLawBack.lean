/- InsnBack: what is encoded is decoded as it was; a word that is decoded is encoded as it was. -/
import Derived.Test.YtloihfdiabbcpaaProg
import Derived.Test.YtloihfdiabbcpaaSxSum
import Derived.Test.YtloihfdiabbcpaaInFin
namespace Go.Proofs.Ytloihfdiabbcpaa.Sx
open Go Go.RowKit
set_option linter.unusedVariables false
set_option linter.unusedSimpArgs false
set_option maxRecDepth 100000
def restT : T V := (.node (.cmp .neq (.fn 7 (.var 4) (.lit 0) (.lit 0)) (.lit 0)) (.node (.and (.seq (.fn 1 (.var 4)) (.lit [])) (.and (.cmp .eql (.fn 3 (.var 4) (.lit 0) (.lit 0)) (.lit 0)) (.and (.cmp .eql (.fn 4 (.var 4) (.lit 0) (.lit 0)) (.lit 0)) (.and (.cmp .eql (.fn 5 (.var 4) (.lit 0) (.lit 0)) (.lit 0)) (.cmp .eql (.fn 6 (.var 4) (.lit 0) (.lit 0)) (.lit 0)))))) (.ret (.bool (.cmp .eql (.fn 7 (.lit 115) (.lit 0) (.lit 0)) (.lit 0)))) (.ret (.bool (.lit false)))) (.node (.fn5 1 (.fn 8 (.var 4) (.lit 0) (.lit 0)) (.fn 3 (.var 4) (.lit 0) (.lit 0)) (.fn 4 (.var 4) (.lit 0) (.lit 0)) (.fn 5 (.var 4) (.lit 0) (.lit 0)) (.fn 6 (.var 4) (.lit 0) (.lit 0))) (.ret (.bool (.cmp .eql (.fn5 1 (.fn 8 (.var 4) (.lit 0) (.lit 0)) (.fn 3 (.var 4) (.lit 0) (.lit 0)) (.fn 4 (.var 4) (.lit 0) (.lit 0)) (.fn 5 (.var 4) (.lit 0) (.lit 0)) (.fn 6 (.var 4) (.lit 0) (.lit 0))) (.var 4)))) (.ret (.bool (.lit false)))))
def backT : T V := (.node (.fn5 1 (.var 100) (.var 0) (.var 1) (.var 2) (.var 3)) (.node (.cmp .neq (.fn 7 (.fn5 1 (.var 100) (.var 0) (.var 1) (.var 2) (.var 3)) (.lit 0) (.lit 0)) (.lit 0)) (.ret (.bool (.lit false))) (.node (.and (.seq (.fn 1 (.fn5 1 (.var 100) (.var 0) (.var 1) (.var 2) (.var 3))) (.var 0)) (.and (.cmp .eql (.fn 3 (.fn5 1 (.var 100) (.var 0) (.var 1) (.var 2) (.var 3)) (.lit 0) (.lit 0)) (.var 0)) (.and (.cmp .eql (.fn 4 (.fn5 1 (.var 100) (.var 0) (.var 1) (.var 2) (.var 3)) (.lit 0) (.lit 0)) (.var 1)) (.and (.cmp .eql (.fn 5 (.fn5 1 (.var 100) (.var 0) (.var 1) (.var 2) (.var 3)) (.lit 0) (.lit 0)) (.var 2)) (.cmp .eql (.fn 6 (.fn5 1 (.var 100) (.var 0) (.var 1) (.var 2) (.var 3)) (.lit 0) (.lit 0)) (.var 3)))))) restT (.ret (.bool (.lit false))))) restT)
theorem back_eq : callTop Try.prog sumB 60 8 [.agg [.str (.var 0), .int .i64 (.var 0), .int .i64 (.var 1), .int .i64 (.var 2), .int .i64 (.var 3)], .int .u32 (.var 4)] [] = backT := by kernel_rfl
theorem rest_good {η : Env} (h : InEnv η) (hw : 0 ≤ η.i 4 ∧ η.i 4 < 4294967296) : restT.good η := by
  simp only [restT, T.good, B.prop, E.den, S.den, propI, h.fb5, h.fi5, h.fi, h.fs, eB, eI, lit_list]
  cases hd : decR (η.i 4) with
  | none =>
    have h115 : inFi 7 115 0 0 = 0 := by kernel_rfl
    have z7 := n7 hd 0 0
    refine ⟨fun _ => ⟨fun _ => h115, fun hn => absurd ⟨ns hd 1, n3 hd 3 (by simp) 0 0, n3 hd 4 (by simp) 0 0, n3 hd 5 (by simp) 0 0, n3 hd 6 (by simp) 0 0⟩ hn⟩, fun hn => ?_⟩
    rw [z7] at hn
    exact absurd (by decide) hn
  | some r =>
    obtain ⟨hr, hm⟩ := decR_some hd
    obtain ⟨g1, g2⟩ := d2 hr hw hm
    have hat := row_at hr
    have key : encB rowsL (rowOf rowsL r.name) (fldI (hasD r.form) 7 (η.i 4)) (fldI (has1 r.form) 15 (η.i 4)) (fldI (has2 r.form) 20 (η.i 4)) (numI r.form (η.i 4)) = true := by unfold encB; rw [hat]; exact g1
    have key2 : encI rowsL (rowOf rowsL r.name) (fldI (hasD r.form) 7 (η.i 4)) (fldI (has1 r.form) 15 (η.i 4)) (fldI (has2 r.form) 20 (η.i 4)) (numI r.form (η.i 4)) = η.i 4 := by unfold encI; rw [hat]; simp only [g1, if_true, g2]
    rw [f3 hd, f4 hd, f5 hd, f6 hd, f7 hd, f8 hd]
    simp only [Int.toNat_natCast]
    exact ⟨fun hn => absurd rfl hn, fun _ => ⟨fun _ => key2, fun hn => absurd key hn⟩⟩
theorem back_good {η : Env} (h : InEnv η) (hw : 0 ≤ η.i 4 ∧ η.i 4 < 4294967296) : backT.good η := by
  have hrest := rest_good h hw
  simp only [backT, T.good, B.prop, E.den, S.den, propI, h.fb5, h.fi5, h.fi, h.fs, eB, eI, show η.i 100 = (rowOf rowsL (η.s 0).toList : Int) from h.idx 0, Int.toNat_natCast]
  refine ⟨fun hB => ?_, fun _ => hrest⟩
  obtain ⟨r, hr, hm, hok, hI⟩ := enc_ok hB
  obtain ⟨_, hd, e3, e4, e5, e6⟩ := d1 hm hok hI.symm
  have hn := row_name hr
  rw [f3 hd, f4 hd, f5 hd, f6 hd, f7 hd, fs1 hd]
  exact ⟨fun hq => absurd rfl hq, fun _ => ⟨fun _ => hrest, fun hq => absurd ⟨hn, e3, e4, e5, e6⟩ hq⟩⟩
theorem back_walk (s0 : ByteArray) (a0 a1 a2 a3 a4 : Int) (hw : 0 ≤ a4 ∧ a4 < 4294967296) (W : World) :
    Calls Try.prog 8 #[.agg #[.string s0, .int .i64 a0, .int .i64 a1, .int .i64 a2, .int .i64 a3], .int .u32 a4] W fun e W' => e = .returned (.bool true) ∧ Below W.heap.size W W' := by
  refine law_ok (η := env2 (fun m => if m = 0 then a0 else if m = 1 then a1 else if m = 2 then a2 else if m = 3 then a3 else a4) (fun _ => s0)) in_plain in_follows (sumB_ok _ (env2_ok _ _)) (n := 60) (args := [.agg [.str (.var 0), .int .i64 (.var 0), .int .i64 (.var 1), .int .i64 (.var 2), .int .i64 (.var 3)], .int .u32 (.var 4)]) (args' := [.agg #[.string s0, .int .i64 a0, .int .i64 a1, .int .i64 a2, .int .i64 a3], .int .u32 a4])
    (.cons _ _ _ _ (.agg _ [.string s0, .int .i64 a0, .int .i64 a1, .int .i64 a2, .int .i64 a3] (.cons _ _ _ _ (.str (.var 0)) (.cons _ _ _ _ (.int _ (.var 0)) (.cons _ _ _ _ (.int _ (.var 1)) (.cons _ _ _ _ (.int _ (.var 2)) (.cons _ _ _ _ (.int _ (.var 3)) .nil)))))) (.cons _ _ _ _ (.int _ (.var 4)) .nil)) facts_none ?_ W
  rw [back_eq]; exact T.good_yes (back_good (env2_ok _ _) hw)
end Go.Proofs.Ytloihfdiabbcpaa.Sx
