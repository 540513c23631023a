/- InsnDecodes: any word has the document's instruction, or none. -/
import Derived.Test.YtloihfdiabbcpaaProg
import Derived.Test.YtloihfdiabbcpaaSxSum
import Derived.Test.YtloihfdiabbcpaaInRD
namespace Go.Proofs.Ytloihfdiabbcpaa.Sx
open Go Go.RowKit
set_option linter.unusedVariables false
set_option linter.unusedSimpArgs false
set_option maxRecDepth 100000
def decodesT : T V := (.node (.and (.seq (.fn 1 (.var 0)) (.fn 1 (.var 0))) (.and (.cmp .eql (.fn 3 (.var 0) (.lit 0) (.lit 0)) (.fn 3 (.var 0) (.lit 0) (.lit 0))) (.and (.cmp .eql (.fn 4 (.var 0) (.lit 0) (.lit 0)) (.fn 4 (.var 0) (.lit 0) (.lit 0))) (.and (.cmp .eql (.fn 5 (.var 0) (.lit 0) (.lit 0)) (.fn 5 (.var 0) (.lit 0) (.lit 0))) (.cmp .eql (.fn 6 (.var 0) (.lit 0) (.lit 0)) (.fn 6 (.var 0) (.lit 0) (.lit 0))))))) (.node (.cmp .eql (.fn 7 (.var 0) (.lit 0) (.lit 0)) (.fn 7 (.var 0) (.lit 0) (.lit 0))) (.node (.and (.seq (.fn 1 (.lit 4292866159)) (.lit [106, 97, 108])) (.and (.cmp .eql (.fn 3 (.lit 4292866159) (.lit 0) (.lit 0)) (.lit 0)) (.and (.cmp .eql (.fn 4 (.lit 4292866159) (.lit 0) (.lit 0)) (.lit 0)) (.and (.cmp .eql (.fn 5 (.lit 4292866159) (.lit 0) (.lit 0)) (.lit 0)) (.cmp .eql (.fn 6 (.lit 4292866159) (.lit 0) (.lit 0)) (.lit (-4))))))) (.ret (.bool (.cmp .eql (.fn 7 (.lit 4292866159) (.lit 0) (.lit 0)) (.lit 0)))) (.ret (.bool (.lit false)))) (.ret (.bool (.lit false)))) (.ret (.bool (.lit false))))
theorem decodes_eq : callTop Try.prog sumD 60 3 [.int .u32 (.var 0)] [] = decodesT := by kernel_rfl
theorem decodes_good {η : Env} (h : InEnv η) : decodesT.good η := by
  simp only [decodesT, T.good, B.prop, E.den, S.den, propI, h.fi, h.fs, lit_list]
  have hb : (inFs 1 4292866159).toList = [106, 97, 108] ∧ inFi 3 4292866159 0 0 = 0 ∧ inFi 4 4292866159 0 0 = 0 ∧ inFi 5 4292866159 0 0 = 0 ∧ inFi 6 4292866159 0 0 = -4 := by
    have hd : (decR 4292866159).isSome = true := by kernel_rfl
    obtain ⟨r, hr⟩ := Option.isSome_iff_exists.1 hd
    have hn : r = ⟨[106, 97, 108], 1, 111⟩ := by
      have q : decR 4292866159 = some ⟨[106, 97, 108], 1, 111⟩ := by kernel_rfl
      rw [hr] at q; exact Option.some.inj q
    subst hn
    exact ⟨fs1 hr 1, by kernel_rfl, by kernel_rfl, by kernel_rfl, by kernel_rfl⟩
  have h7 : inFi 7 4292866159 0 0 = 0 := by kernel_rfl
  exact ⟨fun _ => ⟨fun _ => ⟨fun _ => h7, fun hn => absurd hb hn⟩, fun hn => absurd trivial hn⟩, fun hn => absurd ⟨trivial, trivial, trivial, trivial, trivial⟩ hn⟩
theorem decodes_walk (a0 : Int) (hw : 0 ≤ a0 ∧ a0 < 4294967296) (W : World) : Calls Try.prog 3 #[.int .u32 a0] W fun e W' => e = .returned (.bool true) ∧ Below W.heap.size W W' := by
  refine law_ok (η := env2 (fun _ => a0) (fun _ => ⟨#[]⟩)) in_plain in_follows (sumD_ok _ (env2_ok _ _) hw) (n := 60) (args := [.int .u32 (.var 0)]) (args' := [.int .u32 a0])
    (.cons _ _ _ _ (.int _ (.var 0)) .nil) facts_none ?_ W
  rw [decodes_eq]; exact T.good_yes (decodes_good (env2_ok _ _))
end Go.Proofs.Ytloihfdiabbcpaa.Sx
