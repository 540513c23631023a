/- InsnEncodes: any instruction has the document's word, or is none. -/
import Derived.Test.YtloihfdiabbcpaaProg
import Derived.Test.YtloihfdiabbcpaaSxSum
import Derived.Test.YtloihfdiabbcpaaInREnd
namespace Go.Proofs.Ytloihfdiabbcpaa.Sx
open Go Go.RowKit
set_option linter.unusedVariables false
set_option linter.unusedSimpArgs false
set_option maxRecDepth 100000
def encodesT : T V := (.node (.cmp .eql (.wrap .i64 (.fn5 1 (.var 100) (.var 0) (.var 1) (.var 2) (.var 3))) (.fn5 1 (.var 100) (.var 0) (.var 1) (.var 2) (.var 3))) (.node (.eqb (.fn5 1 (.var 100) (.var 0) (.var 1) (.var 2) (.var 3)) (.fn5 1 (.var 100) (.var 0) (.var 1) (.var 2) (.var 3))) (.node (.cmp .eql (.fn5 1 (.lit 9) (.lit 1) (.lit 2) (.lit 0) (.lit (-1))) (.lit 4293984403)) (.ret (.bool (.fn5 1 (.lit 9) (.lit 1) (.lit 2) (.lit 0) (.lit (-1))))) (.ret (.bool (.lit false)))) (.ret (.bool (.lit false)))) (.ret (.bool (.lit false))))
theorem encodes_eq : callTop Try.prog sumE 60 4 [.agg [.str (.var 0), .int .i64 (.var 0), .int .i64 (.var 1), .int .i64 (.var 2), .int .i64 (.var 3)]] [] = encodesT := by kernel_rfl
theorem enc_in (k : Nat) (a b c n : Int) : 0 ≤ encI rowsL k a b c n ∧ encI rowsL k a b c n < 4294967296 := by
  by_cases h : encB rowsL k a b c n = true
  · obtain ⟨r, hr, hm, hok, e⟩ := enc_ok h
    rw [e]; exact (d1 hm hok rfl).1
  · have : encI rowsL k a b c n = 0 := by
      unfold encI; unfold encB at h
      split
      · rename_i r hr; rw [hr] at h; simp only at h; rw [if_neg h]
      · rfl
    omega
theorem encodes_good {η : Env} (h : InEnv η) : encodesT.good η := by
  simp only [encodesT, T.good, B.prop, E.den, S.den, propI, h.fb5, h.fi5, eB, eI, show η.i 100 = (rowOf rowsL (η.s 0).toList : Int) from h.idx 0, Int.toNat_natCast, wrap_i64]
  have hE : encB rowsL (Int.toNat 9) 1 2 0 (-1) = true := by kernel_rfl
  have hI : encI rowsL (Int.toNat 9) 1 2 0 (-1) = 4293984403 := by kernel_rfl
  have hr := enc_in (rowOf rowsL (η.s 0).toList) (η.i 0) (η.i 1) (η.i 2) (η.i 3)
  rw [hI]
  refine ⟨fun _ => ⟨fun _ => ⟨fun _ => ?_, fun hn => ?_⟩, fun hn => ?_⟩, fun hn => ?_⟩
  all_goals first | exact hE | (exfalso; omega) | (exfalso; simp_all; done) | omega
theorem encodes_walk (s0 : ByteArray) (a0 a1 a2 a3 : Int) (W : World) : Calls Try.prog 4 #[.agg #[.string s0, .int .i64 a0, .int .i64 a1, .int .i64 a2, .int .i64 a3]] W fun e W' => e = .returned (.bool true) ∧ Below W.heap.size W W' := by
  refine law_ok (η := env2 (fun m => if m = 0 then a0 else if m = 1 then a1 else if m = 2 then a2 else a3) (fun _ => s0)) in_plain in_follows (sumE_ok _ (env2_ok _ _)) (n := 60) (args := [.agg [.str (.var 0), .int .i64 (.var 0), .int .i64 (.var 1), .int .i64 (.var 2), .int .i64 (.var 3)]]) (args' := [.agg #[.string s0, .int .i64 a0, .int .i64 a1, .int .i64 a2, .int .i64 a3]])
    (.cons _ _ _ _ (.agg _ [.string s0, .int .i64 a0, .int .i64 a1, .int .i64 a2, .int .i64 a3] (.cons _ _ _ _ (.str (.var 0)) (.cons _ _ _ _ (.int _ (.var 0)) (.cons _ _ _ _ (.int _ (.var 1)) (.cons _ _ _ _ (.int _ (.var 2)) (.cons _ _ _ _ (.int _ (.var 3)) .nil)))))) .nil) facts_none ?_ W
  rw [encodes_eq]; exact T.good_yes (encodes_good (env2_ok _ _))
end Go.Proofs.Ytloihfdiabbcpaa.Sx
