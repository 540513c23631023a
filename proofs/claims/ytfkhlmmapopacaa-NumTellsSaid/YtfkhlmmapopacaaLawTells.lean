/- The walk of NumTells, kind by kind. -/
import Derived.Test.YtfkhlmmapopacaaProg
import Derived.Test.YtfkhlmmapopacaaSxArith
namespace Go.Proofs.Ytfkhlmmapopacaa.Sx
open Go Go.RowKit
set_option linter.unusedVariables false
set_option linter.unusedSimpArgs false
set_option maxRecDepth 100000
def tellsNT : T V := (.ret (.bool (.lit true)))
theorem tellsN_eq : callTop Try.prog noSum 60 4 [.int .i64 (.var 0), .int .i64 (.var 1)] (factsOf (.var 0) (-1)) = tellsNT := by kernel_rfl
theorem tellsN_good (η : Env) : tellsNT.good η := by
  simp only [tellsNT, T.good, B.prop, E.den, propI]
def tells0T : T V := (.ret (.bool (.lit true)))
theorem tells0_eq : callTop Try.prog noSum 60 4 [.int .i64 (.var 0), .int .i64 (.var 1)] (factsOf (.var 0) (0)) = tells0T := by kernel_rfl
theorem tells0_good (η : Env) : tells0T.good η := by
  simp only [tells0T, T.good, B.prop, E.den, propI]
def tells1T : T V := (.ret (.bool (.lit true)))
theorem tells1_eq : callTop Try.prog noSum 60 4 [.int .i64 (.var 0), .int .i64 (.var 1)] (factsOf (.var 0) (1)) = tells1T := by kernel_rfl
theorem tells1_good (η : Env) : tells1T.good η := by
  simp only [tells1T, T.good, B.prop, E.den, propI]
def tells2T : T V := (.ret (.bool (.lit true)))
theorem tells2_eq : callTop Try.prog noSum 60 4 [.int .i64 (.var 0), .int .i64 (.var 1)] (factsOf (.var 0) (2)) = tells2T := by kernel_rfl
theorem tells2_good (η : Env) : tells2T.good η := by
  simp only [tells2T, T.good, B.prop, E.den, propI]
def tells3T : T V := (.node (.cmp .gtr (.rem (.add (.rem (.var 1) (.lit 256)) (.lit 256)) (.lit 256)) (.lit 127)) (.node (.cmp .eql (.wrap .i8 (.var 1)) (.sub (.rem (.add (.rem (.var 1) (.lit 256)) (.lit 256)) (.lit 256)) (.lit 256))) (.ret (.bool (.lit true))) (.ret (.bool (.lit false)))) (.node (.cmp .eql (.wrap .i8 (.var 1)) (.rem (.add (.rem (.var 1) (.lit 256)) (.lit 256)) (.lit 256))) (.ret (.bool (.lit true))) (.ret (.bool (.lit false)))))
theorem tells3_eq : callTop Try.prog noSum 60 4 [.int .i64 (.var 0), .int .i64 (.var 1)] (factsOf (.var 0) (3)) = tells3T := by kernel_rfl
theorem tells3_good (η : Env) : tells3T.good η := by
  simp only [tells3T, T.good, B.prop, E.den, propI]
  simp only [wrap_i8, wrap_i16, wrap_i32, wrap_u8, wrap_u16, wrap_u32, wrap_i64, wrap_u64, tmod_mod256, tmod_mod65536, tmod_mod4294967296, and_255, and_65535, and_4294967295, sh8, sh16, sh32]
  repeat' first | apply And.intro | intro _
  all_goals first | trivial | omega
def tells4T : T V := (.node (.cmp .gtr (.rem (.add (.rem (.var 1) (.lit 65536)) (.lit 65536)) (.lit 65536)) (.lit 32767)) (.node (.cmp .eql (.wrap .i16 (.var 1)) (.sub (.rem (.add (.rem (.var 1) (.lit 65536)) (.lit 65536)) (.lit 65536)) (.lit 65536))) (.ret (.bool (.lit true))) (.ret (.bool (.lit false)))) (.node (.cmp .eql (.wrap .i16 (.var 1)) (.rem (.add (.rem (.var 1) (.lit 65536)) (.lit 65536)) (.lit 65536))) (.ret (.bool (.lit true))) (.ret (.bool (.lit false)))))
theorem tells4_eq : callTop Try.prog noSum 60 4 [.int .i64 (.var 0), .int .i64 (.var 1)] (factsOf (.var 0) (4)) = tells4T := by kernel_rfl
theorem tells4_good (η : Env) : tells4T.good η := by
  simp only [tells4T, T.good, B.prop, E.den, propI]
  simp only [wrap_i8, wrap_i16, wrap_i32, wrap_u8, wrap_u16, wrap_u32, wrap_i64, wrap_u64, tmod_mod256, tmod_mod65536, tmod_mod4294967296, and_255, and_65535, and_4294967295, sh8, sh16, sh32]
  repeat' first | apply And.intro | intro _
  all_goals first | trivial | omega
def tells5T : T V := (.node (.cmp .gtr (.rem (.add (.rem (.var 1) (.lit 4294967296)) (.lit 4294967296)) (.lit 4294967296)) (.lit 2147483647)) (.node (.cmp .eql (.wrap .i32 (.var 1)) (.sub (.rem (.add (.rem (.var 1) (.lit 4294967296)) (.lit 4294967296)) (.lit 4294967296)) (.lit 4294967296))) (.ret (.bool (.lit true))) (.ret (.bool (.lit false)))) (.node (.cmp .eql (.wrap .i32 (.var 1)) (.rem (.add (.rem (.var 1) (.lit 4294967296)) (.lit 4294967296)) (.lit 4294967296))) (.ret (.bool (.lit true))) (.ret (.bool (.lit false)))))
theorem tells5_eq : callTop Try.prog noSum 60 4 [.int .i64 (.var 0), .int .i64 (.var 1)] (factsOf (.var 0) (5)) = tells5T := by kernel_rfl
theorem tells5_good (η : Env) : tells5T.good η := by
  simp only [tells5T, T.good, B.prop, E.den, propI]
  simp only [wrap_i8, wrap_i16, wrap_i32, wrap_u8, wrap_u16, wrap_u32, wrap_i64, wrap_u64, tmod_mod256, tmod_mod65536, tmod_mod4294967296, and_255, and_65535, and_4294967295, sh8, sh16, sh32]
  repeat' first | apply And.intro | intro _
  all_goals first | trivial | omega
def tells6T : T V := (.node (.cmp .gtr (.rem (.add (.rem (.var 1) (.lit 256)) (.lit 256)) (.lit 256)) (.lit 255)) (.node (.cmp .eql (.wrap .u8 (.var 1)) (.sub (.rem (.add (.rem (.var 1) (.lit 256)) (.lit 256)) (.lit 256)) (.lit 256))) (.ret (.bool (.lit true))) (.ret (.bool (.lit false)))) (.node (.cmp .eql (.wrap .u8 (.var 1)) (.rem (.add (.rem (.var 1) (.lit 256)) (.lit 256)) (.lit 256))) (.ret (.bool (.lit true))) (.ret (.bool (.lit false)))))
theorem tells6_eq : callTop Try.prog noSum 60 4 [.int .i64 (.var 0), .int .i64 (.var 1)] (factsOf (.var 0) (6)) = tells6T := by kernel_rfl
theorem tells6_good (η : Env) : tells6T.good η := by
  simp only [tells6T, T.good, B.prop, E.den, propI]
  simp only [wrap_i8, wrap_i16, wrap_i32, wrap_u8, wrap_u16, wrap_u32, wrap_i64, wrap_u64, tmod_mod256, tmod_mod65536, tmod_mod4294967296, and_255, and_65535, and_4294967295, sh8, sh16, sh32]
  repeat' first | apply And.intro | intro _
  all_goals first | trivial | omega
def tells7T : T V := (.node (.cmp .gtr (.rem (.add (.rem (.var 1) (.lit 65536)) (.lit 65536)) (.lit 65536)) (.lit 65535)) (.node (.cmp .eql (.wrap .u16 (.var 1)) (.sub (.rem (.add (.rem (.var 1) (.lit 65536)) (.lit 65536)) (.lit 65536)) (.lit 65536))) (.ret (.bool (.lit true))) (.ret (.bool (.lit false)))) (.node (.cmp .eql (.wrap .u16 (.var 1)) (.rem (.add (.rem (.var 1) (.lit 65536)) (.lit 65536)) (.lit 65536))) (.ret (.bool (.lit true))) (.ret (.bool (.lit false)))))
theorem tells7_eq : callTop Try.prog noSum 60 4 [.int .i64 (.var 0), .int .i64 (.var 1)] (factsOf (.var 0) (7)) = tells7T := by kernel_rfl
theorem tells7_good (η : Env) : tells7T.good η := by
  simp only [tells7T, T.good, B.prop, E.den, propI]
  simp only [wrap_i8, wrap_i16, wrap_i32, wrap_u8, wrap_u16, wrap_u32, wrap_i64, wrap_u64, tmod_mod256, tmod_mod65536, tmod_mod4294967296, and_255, and_65535, and_4294967295, sh8, sh16, sh32]
  repeat' first | apply And.intro | intro _
  all_goals first | trivial | omega
def tells8T : T V := (.node (.cmp .gtr (.rem (.add (.rem (.var 1) (.lit 4294967296)) (.lit 4294967296)) (.lit 4294967296)) (.lit 4294967295)) (.node (.cmp .eql (.wrap .u32 (.var 1)) (.sub (.rem (.add (.rem (.var 1) (.lit 4294967296)) (.lit 4294967296)) (.lit 4294967296)) (.lit 4294967296))) (.ret (.bool (.lit true))) (.ret (.bool (.lit false)))) (.node (.cmp .eql (.wrap .u32 (.var 1)) (.rem (.add (.rem (.var 1) (.lit 4294967296)) (.lit 4294967296)) (.lit 4294967296))) (.ret (.bool (.lit true))) (.ret (.bool (.lit false)))))
theorem tells8_eq : callTop Try.prog noSum 60 4 [.int .i64 (.var 0), .int .i64 (.var 1)] (factsOf (.var 0) (8)) = tells8T := by kernel_rfl
theorem tells8_good (η : Env) : tells8T.good η := by
  simp only [tells8T, T.good, B.prop, E.den, propI]
  simp only [wrap_i8, wrap_i16, wrap_i32, wrap_u8, wrap_u16, wrap_u32, wrap_i64, wrap_u64, tmod_mod256, tmod_mod65536, tmod_mod4294967296, and_255, and_65535, and_4294967295, sh8, sh16, sh32]
  repeat' first | apply And.intro | intro _
  all_goals first | trivial | omega
def tells9T : T V := (.ret (.bool (.lit true)))
theorem tells9_eq : callTop Try.prog noSum 60 4 [.int .i64 (.var 0), .int .i64 (.var 1)] (factsOf (.var 0) (9)) = tells9T := by kernel_rfl
theorem tells9_good (η : Env) : tells9T.good η := by
  simp only [tells9T, T.good, B.prop, E.den, propI]
theorem tells_walk (a0 : Int) (a1 : Int) (w0 : (Lit.int .i64 a0).wf = true) (w1 : (Lit.int .i64 a1).wf = true) (W : World) :
    Calls Try.prog 4 #[.int .i64 a0, .int .i64 a1] W fun e W' => e = .returned (.bool true) ∧ Below W.heap.size W W' := by
  have hc : a0 < 0 ∨ a0 = 0 ∨ a0 = 1 ∨ a0 = 2 ∨ a0 = 3 ∨ a0 = 4 ∨ a0 = 5 ∨ a0 = 6 ∨ a0 = 7 ∨ a0 = 8 ∨ 8 < a0 := by omega
  rcases hc with hc | hc | hc | hc | hc | hc | hc | hc | hc | hc | hc
  · refine law_ok (η := { i := fun n => if n = 0 then a0 else a1 }) (plain_of (by kernel_rfl)) (by kernel_rfl) (noSum_ok _ _) (args := [.int .i64 (.var 0), .int .i64 (.var 1)]) (args' := [.int .i64 a0, .int .i64 a1])
      (.cons _ _ _ _ (.int _ _) (.cons _ _ _ _ (.int _ _) .nil)) (n := 60) (factsOf_neg (e := .var 0) hc) ?_ W
    rw [tellsN_eq]; exact T.good_yes (tellsN_good _)
  · refine law_ok (η := { i := fun n => if n = 0 then a0 else a1 }) (plain_of (by kernel_rfl)) (by kernel_rfl) (noSum_ok _ _) (args := [.int .i64 (.var 0), .int .i64 (.var 1)]) (args' := [.int .i64 a0, .int .i64 a1])
      (.cons _ _ _ _ (.int _ _) (.cons _ _ _ _ (.int _ _) .nil)) (n := 60) (factsOf_ok (e := .var 0) hc) ?_ W
    rw [tells0_eq]; exact T.good_yes (tells0_good _)
  · refine law_ok (η := { i := fun n => if n = 0 then a0 else a1 }) (plain_of (by kernel_rfl)) (by kernel_rfl) (noSum_ok _ _) (args := [.int .i64 (.var 0), .int .i64 (.var 1)]) (args' := [.int .i64 a0, .int .i64 a1])
      (.cons _ _ _ _ (.int _ _) (.cons _ _ _ _ (.int _ _) .nil)) (n := 60) (factsOf_ok (e := .var 0) hc) ?_ W
    rw [tells1_eq]; exact T.good_yes (tells1_good _)
  · refine law_ok (η := { i := fun n => if n = 0 then a0 else a1 }) (plain_of (by kernel_rfl)) (by kernel_rfl) (noSum_ok _ _) (args := [.int .i64 (.var 0), .int .i64 (.var 1)]) (args' := [.int .i64 a0, .int .i64 a1])
      (.cons _ _ _ _ (.int _ _) (.cons _ _ _ _ (.int _ _) .nil)) (n := 60) (factsOf_ok (e := .var 0) hc) ?_ W
    rw [tells2_eq]; exact T.good_yes (tells2_good _)
  · refine law_ok (η := { i := fun n => if n = 0 then a0 else a1 }) (plain_of (by kernel_rfl)) (by kernel_rfl) (noSum_ok _ _) (args := [.int .i64 (.var 0), .int .i64 (.var 1)]) (args' := [.int .i64 a0, .int .i64 a1])
      (.cons _ _ _ _ (.int _ _) (.cons _ _ _ _ (.int _ _) .nil)) (n := 60) (factsOf_ok (e := .var 0) hc) ?_ W
    rw [tells3_eq]; exact T.good_yes (tells3_good _)
  · refine law_ok (η := { i := fun n => if n = 0 then a0 else a1 }) (plain_of (by kernel_rfl)) (by kernel_rfl) (noSum_ok _ _) (args := [.int .i64 (.var 0), .int .i64 (.var 1)]) (args' := [.int .i64 a0, .int .i64 a1])
      (.cons _ _ _ _ (.int _ _) (.cons _ _ _ _ (.int _ _) .nil)) (n := 60) (factsOf_ok (e := .var 0) hc) ?_ W
    rw [tells4_eq]; exact T.good_yes (tells4_good _)
  · refine law_ok (η := { i := fun n => if n = 0 then a0 else a1 }) (plain_of (by kernel_rfl)) (by kernel_rfl) (noSum_ok _ _) (args := [.int .i64 (.var 0), .int .i64 (.var 1)]) (args' := [.int .i64 a0, .int .i64 a1])
      (.cons _ _ _ _ (.int _ _) (.cons _ _ _ _ (.int _ _) .nil)) (n := 60) (factsOf_ok (e := .var 0) hc) ?_ W
    rw [tells5_eq]; exact T.good_yes (tells5_good _)
  · refine law_ok (η := { i := fun n => if n = 0 then a0 else a1 }) (plain_of (by kernel_rfl)) (by kernel_rfl) (noSum_ok _ _) (args := [.int .i64 (.var 0), .int .i64 (.var 1)]) (args' := [.int .i64 a0, .int .i64 a1])
      (.cons _ _ _ _ (.int _ _) (.cons _ _ _ _ (.int _ _) .nil)) (n := 60) (factsOf_ok (e := .var 0) hc) ?_ W
    rw [tells6_eq]; exact T.good_yes (tells6_good _)
  · refine law_ok (η := { i := fun n => if n = 0 then a0 else a1 }) (plain_of (by kernel_rfl)) (by kernel_rfl) (noSum_ok _ _) (args := [.int .i64 (.var 0), .int .i64 (.var 1)]) (args' := [.int .i64 a0, .int .i64 a1])
      (.cons _ _ _ _ (.int _ _) (.cons _ _ _ _ (.int _ _) .nil)) (n := 60) (factsOf_ok (e := .var 0) hc) ?_ W
    rw [tells7_eq]; exact T.good_yes (tells7_good _)
  · refine law_ok (η := { i := fun n => if n = 0 then a0 else a1 }) (plain_of (by kernel_rfl)) (by kernel_rfl) (noSum_ok _ _) (args := [.int .i64 (.var 0), .int .i64 (.var 1)]) (args' := [.int .i64 a0, .int .i64 a1])
      (.cons _ _ _ _ (.int _ _) (.cons _ _ _ _ (.int _ _) .nil)) (n := 60) (factsOf_ok (e := .var 0) hc) ?_ W
    rw [tells8_eq]; exact T.good_yes (tells8_good _)
  · refine law_ok (η := { i := fun n => if n = 0 then a0 else a1 }) (plain_of (by kernel_rfl)) (by kernel_rfl) (noSum_ok _ _) (args := [.int .i64 (.var 0), .int .i64 (.var 1)]) (args' := [.int .i64 a0, .int .i64 a1])
      (.cons _ _ _ _ (.int _ _) (.cons _ _ _ _ (.int _ _) .nil)) (n := 60) (factsOf_big (e := .var 0) hc) ?_ W
    rw [tells9_eq]; exact T.good_yes (tells9_good _)
end Go.Proofs.Ytfkhlmmapopacaa.Sx
