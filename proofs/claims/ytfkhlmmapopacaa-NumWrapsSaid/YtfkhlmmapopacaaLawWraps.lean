/- The walk of NumWraps, kind by kind. -/
import Derived.Test.YtfkhlmmapopacaaProg
import Derived.Test.YtfkhlmmapopacaaSxArith
namespace Go.Proofs.Ytfkhlmmapopacaa.Sx
open Go Go.RowKit
set_option linter.unusedVariables false
set_option linter.unusedSimpArgs false
set_option maxRecDepth 100000
def wrapsNT : T V := (.ret (.bool (.lit true)))
theorem wrapsN_eq : callTop Try.prog noSum 60 5 [.int .i64 (.var 0), .int .i64 (.var 1), .int .i64 (.var 2)] (factsOf (.var 0) (-1)) = wrapsNT := by kernel_rfl
theorem wrapsN_good (η : Env) : wrapsNT.good η := by
  simp only [wrapsNT, T.good, B.prop, E.den, propI]
def wraps0T : T V := (.ret (.bool (.lit true)))
theorem wraps0_eq : callTop Try.prog noSum 60 5 [.int .i64 (.var 0), .int .i64 (.var 1), .int .i64 (.var 2)] (factsOf (.var 0) (0)) = wraps0T := by kernel_rfl
theorem wraps0_good (η : Env) : wraps0T.good η := by
  simp only [wraps0T, T.good, B.prop, E.den, propI]
def wraps1T : T V := (.ret (.bool (.lit true)))
theorem wraps1_eq : callTop Try.prog noSum 60 5 [.int .i64 (.var 0), .int .i64 (.var 1), .int .i64 (.var 2)] (factsOf (.var 0) (1)) = wraps1T := by kernel_rfl
theorem wraps1_good (η : Env) : wraps1T.good η := by
  simp only [wraps1T, T.good, B.prop, E.den, propI]
def wraps2T : T V := (.ret (.bool (.lit true)))
theorem wraps2_eq : callTop Try.prog noSum 60 5 [.int .i64 (.var 0), .int .i64 (.var 1), .int .i64 (.var 2)] (factsOf (.var 0) (2)) = wraps2T := by kernel_rfl
theorem wraps2_good (η : Env) : wraps2T.good η := by
  simp only [wraps2T, T.good, B.prop, E.den, propI]
def wraps3T : T V := (.node (.cmp .eql (.wrap .i8 (.var 1)) (.wrap .i8 (.var 1))) (.node (.cmp .geq (.wrap .i8 (.var 1)) (.lit (-128))) (.node (.cmp .leq (.wrap .i8 (.var 1)) (.lit 127)) (.node (.cmp .eql (.wrap .i8 (.wrap .i64 (.add (.var 1) (.shl .i64 (.var 2) (.lit 8))))) (.wrap .i8 (.var 1))) (.node (.cmp .eql (.bits .and .i64 (.wrap .i64 (.sub (.wrap .i8 (.var 1)) (.var 1))) (.lit 255)) (.lit 0)) (.ret (.bool (.lit true))) (.ret (.bool (.lit false)))) (.ret (.bool (.lit false)))) (.ret (.bool (.lit false)))) (.ret (.bool (.lit false)))) (.ret (.bool (.lit false))))
theorem wraps3_eq : callTop Try.prog noSum 60 5 [.int .i64 (.var 0), .int .i64 (.var 1), .int .i64 (.var 2)] (factsOf (.var 0) (3)) = wraps3T := by kernel_rfl
theorem wraps3_good (η : Env) : wraps3T.good η := by
  simp only [wraps3T, T.good, B.prop, E.den, propI]
  simp only [wrap_i8, wrap_i16, wrap_i32, wrap_u8, wrap_u16, wrap_u32, wrap_i64, wrap_u64, tmod_mod256, tmod_mod65536, tmod_mod4294967296, and_255, and_65535, and_4294967295, sh8, sh16, sh32]
  repeat' first | apply And.intro | intro _
  all_goals first | trivial | omega
def wraps4T : T V := (.node (.cmp .eql (.wrap .i16 (.var 1)) (.wrap .i16 (.var 1))) (.node (.cmp .geq (.wrap .i16 (.var 1)) (.lit (-32768))) (.node (.cmp .leq (.wrap .i16 (.var 1)) (.lit 32767)) (.node (.cmp .eql (.wrap .i16 (.wrap .i64 (.add (.var 1) (.shl .i64 (.var 2) (.lit 16))))) (.wrap .i16 (.var 1))) (.node (.cmp .eql (.bits .and .i64 (.wrap .i64 (.sub (.wrap .i16 (.var 1)) (.var 1))) (.lit 65535)) (.lit 0)) (.ret (.bool (.lit true))) (.ret (.bool (.lit false)))) (.ret (.bool (.lit false)))) (.ret (.bool (.lit false)))) (.ret (.bool (.lit false)))) (.ret (.bool (.lit false))))
theorem wraps4_eq : callTop Try.prog noSum 60 5 [.int .i64 (.var 0), .int .i64 (.var 1), .int .i64 (.var 2)] (factsOf (.var 0) (4)) = wraps4T := by kernel_rfl
theorem wraps4_good (η : Env) : wraps4T.good η := by
  simp only [wraps4T, T.good, B.prop, E.den, propI]
  simp only [wrap_i8, wrap_i16, wrap_i32, wrap_u8, wrap_u16, wrap_u32, wrap_i64, wrap_u64, tmod_mod256, tmod_mod65536, tmod_mod4294967296, and_255, and_65535, and_4294967295, sh8, sh16, sh32]
  repeat' first | apply And.intro | intro _
  all_goals first | trivial | omega
def wraps5T : T V := (.node (.cmp .eql (.wrap .i32 (.var 1)) (.wrap .i32 (.var 1))) (.node (.cmp .geq (.wrap .i32 (.var 1)) (.lit (-2147483648))) (.node (.cmp .leq (.wrap .i32 (.var 1)) (.lit 2147483647)) (.node (.cmp .eql (.wrap .i32 (.wrap .i64 (.add (.var 1) (.shl .i64 (.var 2) (.lit 32))))) (.wrap .i32 (.var 1))) (.node (.cmp .eql (.bits .and .i64 (.wrap .i64 (.sub (.wrap .i32 (.var 1)) (.var 1))) (.lit 4294967295)) (.lit 0)) (.ret (.bool (.lit true))) (.ret (.bool (.lit false)))) (.ret (.bool (.lit false)))) (.ret (.bool (.lit false)))) (.ret (.bool (.lit false)))) (.ret (.bool (.lit false))))
theorem wraps5_eq : callTop Try.prog noSum 60 5 [.int .i64 (.var 0), .int .i64 (.var 1), .int .i64 (.var 2)] (factsOf (.var 0) (5)) = wraps5T := by kernel_rfl
theorem wraps5_good (η : Env) : wraps5T.good η := by
  simp only [wraps5T, T.good, B.prop, E.den, propI]
  simp only [wrap_i8, wrap_i16, wrap_i32, wrap_u8, wrap_u16, wrap_u32, wrap_i64, wrap_u64, tmod_mod256, tmod_mod65536, tmod_mod4294967296, and_255, and_65535, and_4294967295, sh8, sh16, sh32]
  repeat' first | apply And.intro | intro _
  all_goals first | trivial | omega
def wraps6T : T V := (.node (.cmp .eql (.wrap .u8 (.var 1)) (.wrap .u8 (.var 1))) (.node (.cmp .geq (.wrap .u8 (.var 1)) (.lit 0)) (.node (.cmp .leq (.wrap .u8 (.var 1)) (.lit 255)) (.node (.cmp .eql (.wrap .u8 (.wrap .i64 (.add (.var 1) (.shl .i64 (.var 2) (.lit 8))))) (.wrap .u8 (.var 1))) (.node (.cmp .eql (.bits .and .i64 (.wrap .i64 (.sub (.wrap .u8 (.var 1)) (.var 1))) (.lit 255)) (.lit 0)) (.ret (.bool (.lit true))) (.ret (.bool (.lit false)))) (.ret (.bool (.lit false)))) (.ret (.bool (.lit false)))) (.ret (.bool (.lit false)))) (.ret (.bool (.lit false))))
theorem wraps6_eq : callTop Try.prog noSum 60 5 [.int .i64 (.var 0), .int .i64 (.var 1), .int .i64 (.var 2)] (factsOf (.var 0) (6)) = wraps6T := by kernel_rfl
theorem wraps6_good (η : Env) : wraps6T.good η := by
  simp only [wraps6T, T.good, B.prop, E.den, propI]
  simp only [wrap_i8, wrap_i16, wrap_i32, wrap_u8, wrap_u16, wrap_u32, wrap_i64, wrap_u64, tmod_mod256, tmod_mod65536, tmod_mod4294967296, and_255, and_65535, and_4294967295, sh8, sh16, sh32]
  repeat' first | apply And.intro | intro _
  all_goals first | trivial | omega
def wraps7T : T V := (.node (.cmp .eql (.wrap .u16 (.var 1)) (.wrap .u16 (.var 1))) (.node (.cmp .geq (.wrap .u16 (.var 1)) (.lit 0)) (.node (.cmp .leq (.wrap .u16 (.var 1)) (.lit 65535)) (.node (.cmp .eql (.wrap .u16 (.wrap .i64 (.add (.var 1) (.shl .i64 (.var 2) (.lit 16))))) (.wrap .u16 (.var 1))) (.node (.cmp .eql (.bits .and .i64 (.wrap .i64 (.sub (.wrap .u16 (.var 1)) (.var 1))) (.lit 65535)) (.lit 0)) (.ret (.bool (.lit true))) (.ret (.bool (.lit false)))) (.ret (.bool (.lit false)))) (.ret (.bool (.lit false)))) (.ret (.bool (.lit false)))) (.ret (.bool (.lit false))))
theorem wraps7_eq : callTop Try.prog noSum 60 5 [.int .i64 (.var 0), .int .i64 (.var 1), .int .i64 (.var 2)] (factsOf (.var 0) (7)) = wraps7T := by kernel_rfl
theorem wraps7_good (η : Env) : wraps7T.good η := by
  simp only [wraps7T, T.good, B.prop, E.den, propI]
  simp only [wrap_i8, wrap_i16, wrap_i32, wrap_u8, wrap_u16, wrap_u32, wrap_i64, wrap_u64, tmod_mod256, tmod_mod65536, tmod_mod4294967296, and_255, and_65535, and_4294967295, sh8, sh16, sh32]
  repeat' first | apply And.intro | intro _
  all_goals first | trivial | omega
def wraps8T : T V := (.node (.cmp .eql (.wrap .u32 (.var 1)) (.wrap .u32 (.var 1))) (.node (.cmp .geq (.wrap .u32 (.var 1)) (.lit 0)) (.node (.cmp .leq (.wrap .u32 (.var 1)) (.lit 4294967295)) (.node (.cmp .eql (.wrap .u32 (.wrap .i64 (.add (.var 1) (.shl .i64 (.var 2) (.lit 32))))) (.wrap .u32 (.var 1))) (.node (.cmp .eql (.bits .and .i64 (.wrap .i64 (.sub (.wrap .u32 (.var 1)) (.var 1))) (.lit 4294967295)) (.lit 0)) (.ret (.bool (.lit true))) (.ret (.bool (.lit false)))) (.ret (.bool (.lit false)))) (.ret (.bool (.lit false)))) (.ret (.bool (.lit false)))) (.ret (.bool (.lit false))))
theorem wraps8_eq : callTop Try.prog noSum 60 5 [.int .i64 (.var 0), .int .i64 (.var 1), .int .i64 (.var 2)] (factsOf (.var 0) (8)) = wraps8T := by kernel_rfl
theorem wraps8_good (η : Env) : wraps8T.good η := by
  simp only [wraps8T, T.good, B.prop, E.den, propI]
  simp only [wrap_i8, wrap_i16, wrap_i32, wrap_u8, wrap_u16, wrap_u32, wrap_i64, wrap_u64, tmod_mod256, tmod_mod65536, tmod_mod4294967296, and_255, and_65535, and_4294967295, sh8, sh16, sh32]
  repeat' first | apply And.intro | intro _
  all_goals first | trivial | omega
def wraps9T : T V := (.ret (.bool (.lit true)))
theorem wraps9_eq : callTop Try.prog noSum 60 5 [.int .i64 (.var 0), .int .i64 (.var 1), .int .i64 (.var 2)] (factsOf (.var 0) (9)) = wraps9T := by kernel_rfl
theorem wraps9_good (η : Env) : wraps9T.good η := by
  simp only [wraps9T, T.good, B.prop, E.den, propI]
theorem wraps_walk (a0 : Int) (a1 : Int) (a2 : Int) (w0 : (Lit.int .i64 a0).wf = true) (w1 : (Lit.int .i64 a1).wf = true) (w2 : (Lit.int .i64 a2).wf = true) (W : World) :
    Calls Try.prog 5 #[.int .i64 a0, .int .i64 a1, .int .i64 a2] W fun e W' => e = .returned (.bool true) ∧ Below W.heap.size W W' := by
  have hc : a0 < 0 ∨ a0 = 0 ∨ a0 = 1 ∨ a0 = 2 ∨ a0 = 3 ∨ a0 = 4 ∨ a0 = 5 ∨ a0 = 6 ∨ a0 = 7 ∨ a0 = 8 ∨ 8 < a0 := by omega
  rcases hc with hc | hc | hc | hc | hc | hc | hc | hc | hc | hc | hc
  · refine law_ok (η := { i := fun n => if n = 0 then a0 else if n = 1 then a1 else a2 }) (plain_of (by kernel_rfl)) (by kernel_rfl) (noSum_ok _ _) (args := [.int .i64 (.var 0), .int .i64 (.var 1), .int .i64 (.var 2)]) (args' := [.int .i64 a0, .int .i64 a1, .int .i64 a2])
      (.cons _ _ _ _ (.int _ _) (.cons _ _ _ _ (.int _ _) (.cons _ _ _ _ (.int _ _) .nil))) (n := 60) (factsOf_neg (e := .var 0) hc) ?_ W
    rw [wrapsN_eq]; exact T.good_yes (wrapsN_good _)
  · refine law_ok (η := { i := fun n => if n = 0 then a0 else if n = 1 then a1 else a2 }) (plain_of (by kernel_rfl)) (by kernel_rfl) (noSum_ok _ _) (args := [.int .i64 (.var 0), .int .i64 (.var 1), .int .i64 (.var 2)]) (args' := [.int .i64 a0, .int .i64 a1, .int .i64 a2])
      (.cons _ _ _ _ (.int _ _) (.cons _ _ _ _ (.int _ _) (.cons _ _ _ _ (.int _ _) .nil))) (n := 60) (factsOf_ok (e := .var 0) hc) ?_ W
    rw [wraps0_eq]; exact T.good_yes (wraps0_good _)
  · refine law_ok (η := { i := fun n => if n = 0 then a0 else if n = 1 then a1 else a2 }) (plain_of (by kernel_rfl)) (by kernel_rfl) (noSum_ok _ _) (args := [.int .i64 (.var 0), .int .i64 (.var 1), .int .i64 (.var 2)]) (args' := [.int .i64 a0, .int .i64 a1, .int .i64 a2])
      (.cons _ _ _ _ (.int _ _) (.cons _ _ _ _ (.int _ _) (.cons _ _ _ _ (.int _ _) .nil))) (n := 60) (factsOf_ok (e := .var 0) hc) ?_ W
    rw [wraps1_eq]; exact T.good_yes (wraps1_good _)
  · refine law_ok (η := { i := fun n => if n = 0 then a0 else if n = 1 then a1 else a2 }) (plain_of (by kernel_rfl)) (by kernel_rfl) (noSum_ok _ _) (args := [.int .i64 (.var 0), .int .i64 (.var 1), .int .i64 (.var 2)]) (args' := [.int .i64 a0, .int .i64 a1, .int .i64 a2])
      (.cons _ _ _ _ (.int _ _) (.cons _ _ _ _ (.int _ _) (.cons _ _ _ _ (.int _ _) .nil))) (n := 60) (factsOf_ok (e := .var 0) hc) ?_ W
    rw [wraps2_eq]; exact T.good_yes (wraps2_good _)
  · refine law_ok (η := { i := fun n => if n = 0 then a0 else if n = 1 then a1 else a2 }) (plain_of (by kernel_rfl)) (by kernel_rfl) (noSum_ok _ _) (args := [.int .i64 (.var 0), .int .i64 (.var 1), .int .i64 (.var 2)]) (args' := [.int .i64 a0, .int .i64 a1, .int .i64 a2])
      (.cons _ _ _ _ (.int _ _) (.cons _ _ _ _ (.int _ _) (.cons _ _ _ _ (.int _ _) .nil))) (n := 60) (factsOf_ok (e := .var 0) hc) ?_ W
    rw [wraps3_eq]; exact T.good_yes (wraps3_good _)
  · refine law_ok (η := { i := fun n => if n = 0 then a0 else if n = 1 then a1 else a2 }) (plain_of (by kernel_rfl)) (by kernel_rfl) (noSum_ok _ _) (args := [.int .i64 (.var 0), .int .i64 (.var 1), .int .i64 (.var 2)]) (args' := [.int .i64 a0, .int .i64 a1, .int .i64 a2])
      (.cons _ _ _ _ (.int _ _) (.cons _ _ _ _ (.int _ _) (.cons _ _ _ _ (.int _ _) .nil))) (n := 60) (factsOf_ok (e := .var 0) hc) ?_ W
    rw [wraps4_eq]; exact T.good_yes (wraps4_good _)
  · refine law_ok (η := { i := fun n => if n = 0 then a0 else if n = 1 then a1 else a2 }) (plain_of (by kernel_rfl)) (by kernel_rfl) (noSum_ok _ _) (args := [.int .i64 (.var 0), .int .i64 (.var 1), .int .i64 (.var 2)]) (args' := [.int .i64 a0, .int .i64 a1, .int .i64 a2])
      (.cons _ _ _ _ (.int _ _) (.cons _ _ _ _ (.int _ _) (.cons _ _ _ _ (.int _ _) .nil))) (n := 60) (factsOf_ok (e := .var 0) hc) ?_ W
    rw [wraps5_eq]; exact T.good_yes (wraps5_good _)
  · refine law_ok (η := { i := fun n => if n = 0 then a0 else if n = 1 then a1 else a2 }) (plain_of (by kernel_rfl)) (by kernel_rfl) (noSum_ok _ _) (args := [.int .i64 (.var 0), .int .i64 (.var 1), .int .i64 (.var 2)]) (args' := [.int .i64 a0, .int .i64 a1, .int .i64 a2])
      (.cons _ _ _ _ (.int _ _) (.cons _ _ _ _ (.int _ _) (.cons _ _ _ _ (.int _ _) .nil))) (n := 60) (factsOf_ok (e := .var 0) hc) ?_ W
    rw [wraps6_eq]; exact T.good_yes (wraps6_good _)
  · refine law_ok (η := { i := fun n => if n = 0 then a0 else if n = 1 then a1 else a2 }) (plain_of (by kernel_rfl)) (by kernel_rfl) (noSum_ok _ _) (args := [.int .i64 (.var 0), .int .i64 (.var 1), .int .i64 (.var 2)]) (args' := [.int .i64 a0, .int .i64 a1, .int .i64 a2])
      (.cons _ _ _ _ (.int _ _) (.cons _ _ _ _ (.int _ _) (.cons _ _ _ _ (.int _ _) .nil))) (n := 60) (factsOf_ok (e := .var 0) hc) ?_ W
    rw [wraps7_eq]; exact T.good_yes (wraps7_good _)
  · refine law_ok (η := { i := fun n => if n = 0 then a0 else if n = 1 then a1 else a2 }) (plain_of (by kernel_rfl)) (by kernel_rfl) (noSum_ok _ _) (args := [.int .i64 (.var 0), .int .i64 (.var 1), .int .i64 (.var 2)]) (args' := [.int .i64 a0, .int .i64 a1, .int .i64 a2])
      (.cons _ _ _ _ (.int _ _) (.cons _ _ _ _ (.int _ _) (.cons _ _ _ _ (.int _ _) .nil))) (n := 60) (factsOf_ok (e := .var 0) hc) ?_ W
    rw [wraps8_eq]; exact T.good_yes (wraps8_good _)
  · refine law_ok (η := { i := fun n => if n = 0 then a0 else if n = 1 then a1 else a2 }) (plain_of (by kernel_rfl)) (by kernel_rfl) (noSum_ok _ _) (args := [.int .i64 (.var 0), .int .i64 (.var 1), .int .i64 (.var 2)]) (args' := [.int .i64 a0, .int .i64 a1, .int .i64 a2])
      (.cons _ _ _ _ (.int _ _) (.cons _ _ _ _ (.int _ _) (.cons _ _ _ _ (.int _ _) .nil))) (n := 60) (factsOf_big (e := .var 0) hc) ?_ W
    rw [wraps9_eq]; exact T.good_yes (wraps9_good _)
end Go.Proofs.Ytfkhlmmapopacaa.Sx
