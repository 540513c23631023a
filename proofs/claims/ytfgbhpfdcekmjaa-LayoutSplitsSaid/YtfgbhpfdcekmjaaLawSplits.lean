/- The walk of LayoutSplits. -/
import Derived.Test.YtfgbhpfdcekmjaaProg
import Derived.Test.YtfgbhpfdcekmjaaSxArith
namespace Go.Proofs.Ytfgbhpfdcekmjaa.Sx
open Go Go.RowKit
set_option linter.unusedVariables false
set_option linter.unusedSimpArgs false
set_option maxRecDepth 100000

theorem low_eq (x : Int) : (IntKind.i32.wrap (x * 2 ^ shN .i32 20)).fdiv (2 ^ shN .i32 20) = (x + 2048) % 4096 - 2048 := by
  rw [show (2 : Int) ^ shN .i32 20 = 1048576 from rfl, Int.fdiv_eq_ediv_of_nonneg _ (by omega), wrap_i32]; omega
theorem low_wrap (x : Int) : IntKind.i32.wrap (IntKind.i64.wrap ((x + 2048) % 4096 - 2048)) = (x + 2048) % 4096 - 2048 := by
  rw [wrap_i64, wrap_i32]; omega
theorem low_wrap64 (x : Int) : IntKind.i64.wrap ((x + 2048) % 4096 - 2048) = (x + 2048) % 4096 - 2048 := by
  rw [wrap_i64]; omega
theorem low_wrap32 (x : Int) : IntKind.i32.wrap ((x + 2048) % 4096 - 2048) = (x + 2048) % 4096 - 2048 := by
  rw [wrap_i32]; omega
theorem parts (x : Int) : ((((IntKind.i32.wrap x + 2048) / 4096) % 1048576) * 4096 + ((IntKind.i32.wrap x + 2048) % 4096 - 2048)) % 4294967296 = IntKind.u32.wrap x := by
  rw [wrap_i32, wrap_u32]; omega
theorem same (x y : Int) (h : IntKind.u32.wrap x = IntKind.u32.wrap y) : IntKind.i32.wrap x = IntKind.i32.wrap y := by
  rw [wrap_i32, wrap_i32]; rw [wrap_u32, wrap_u32] at h; omega
theorem up_eq (w : Int) : bitsI .and .i64 (IntKind.i64.wrap ((IntKind.u32.wrap (IntKind.i32.wrap (w - ((w + 2048) % 4096 - 2048)))).fdiv (2 ^ shN .u32 12))) 1048575 = ((w + 2048) / 4096) % 1048576 := by
  rw [show (2 : Int) ^ shN .u32 12 = 4096 from rfl, Int.fdiv_eq_ediv_of_nonneg _ (by omega), wrap_i32, wrap_u32, wrap_i64]
  refine (bits_and_mask _ 20 (by omega)).trans ?_
  omega
def splitsT : T V := (.node (.cmp .eql (.bits .and .i64 (.wrap .i64 (.shr .u32 (.wrap .u32 (.wrap .i32 (.sub (.wrap .i32 (.var 0)) (.wrap .i32 (.wrap .i64 (.shr .i32 (.shl .i32 (.wrap .i32 (.var 0)) (.lit 20)) (.lit 20))))))) (.lit 12))) (.lit 1048575)) (.bits .and .i64 (.wrap .i64 (.shr .u32 (.wrap .u32 (.wrap .i32 (.sub (.wrap .i32 (.var 1)) (.wrap .i32 (.wrap .i64 (.shr .i32 (.shl .i32 (.wrap .i32 (.var 1)) (.lit 20)) (.lit 20))))))) (.lit 12))) (.lit 1048575))) (.node (.eqb (.cmp .eql (.wrap .i64 (.shr .i32 (.shl .i32 (.wrap .i32 (.var 0)) (.lit 20)) (.lit 20))) (.wrap .i64 (.shr .i32 (.shl .i32 (.wrap .i32 (.var 1)) (.lit 20)) (.lit 20)))) (.cmp .eql (.wrap .u32 (.var 0)) (.wrap .u32 (.var 1)))) (.node (.cmp .geq (.wrap .i32 (.var 0)) (.lit (-2048))) (.node (.cmp .eql (.bits .and .i64 (.wrap .i64 (.shr .u32 (.wrap .u32 (.wrap .i32 (.sub (.wrap .i32 (.var 0)) (.wrap .i32 (.wrap .i64 (.shr .i32 (.shl .i32 (.wrap .i32 (.var 0)) (.lit 20)) (.lit 20))))))) (.lit 12))) (.lit 1048575)) (.lit 0)) (.node (.cmp .eql (.wrap .i64 (.shr .i32 (.shl .i32 (.wrap .i32 (.var 0)) (.lit 20)) (.lit 20))) (.wrap .i32 (.var 0))) (.ret (.bool (.cmp .lss (.wrap .i32 (.var 0)) (.lit 2048)))) (.node (.cmp .geq (.wrap .i32 (.var 0)) (.lit 0)) (.ret (.bool (.eqb (.cmp .lss (.wrap .i32 (.var 0)) (.lit 2048)) (.cmp .lss (.wrap .i32 (.var 0)) (.lit 2048))))) (.ret (.bool (.not (.cmp .lss (.wrap .i32 (.var 0)) (.lit 2048))))))) (.ret (.bool (.not (.cmp .lss (.wrap .i32 (.var 0)) (.lit 2048)))))) (.node (.cmp .eql (.bits .and .i64 (.wrap .i64 (.shr .u32 (.wrap .u32 (.wrap .i32 (.sub (.wrap .i32 (.var 0)) (.wrap .i32 (.wrap .i64 (.shr .i32 (.shl .i32 (.wrap .i32 (.var 0)) (.lit 20)) (.lit 20))))))) (.lit 12))) (.lit 1048575)) (.lit 0)) (.node (.cmp .eql (.wrap .i64 (.shr .i32 (.shl .i32 (.wrap .i32 (.var 0)) (.lit 20)) (.lit 20))) (.wrap .i32 (.var 0))) (.ret (.bool (.lit false))) (.node (.cmp .geq (.wrap .i32 (.var 0)) (.lit 0)) (.ret (.bool (.not (.cmp .lss (.wrap .i32 (.var 0)) (.lit 2048))))) (.ret (.bool (.lit true))))) (.ret (.bool (.lit true))))) (.ret (.bool (.lit false)))) (.node (.cmp .eql (.wrap .u32 (.var 0)) (.wrap .u32 (.var 1))) (.ret (.bool (.lit false))) (.node (.cmp .geq (.wrap .i32 (.var 0)) (.lit (-2048))) (.node (.cmp .eql (.bits .and .i64 (.wrap .i64 (.shr .u32 (.wrap .u32 (.wrap .i32 (.sub (.wrap .i32 (.var 0)) (.wrap .i32 (.wrap .i64 (.shr .i32 (.shl .i32 (.wrap .i32 (.var 0)) (.lit 20)) (.lit 20))))))) (.lit 12))) (.lit 1048575)) (.lit 0)) (.node (.cmp .eql (.wrap .i64 (.shr .i32 (.shl .i32 (.wrap .i32 (.var 0)) (.lit 20)) (.lit 20))) (.wrap .i32 (.var 0))) (.ret (.bool (.cmp .lss (.wrap .i32 (.var 0)) (.lit 2048)))) (.node (.cmp .geq (.wrap .i32 (.var 0)) (.lit 0)) (.ret (.bool (.eqb (.cmp .lss (.wrap .i32 (.var 0)) (.lit 2048)) (.cmp .lss (.wrap .i32 (.var 0)) (.lit 2048))))) (.ret (.bool (.not (.cmp .lss (.wrap .i32 (.var 0)) (.lit 2048))))))) (.ret (.bool (.not (.cmp .lss (.wrap .i32 (.var 0)) (.lit 2048)))))) (.node (.cmp .eql (.bits .and .i64 (.wrap .i64 (.shr .u32 (.wrap .u32 (.wrap .i32 (.sub (.wrap .i32 (.var 0)) (.wrap .i32 (.wrap .i64 (.shr .i32 (.shl .i32 (.wrap .i32 (.var 0)) (.lit 20)) (.lit 20))))))) (.lit 12))) (.lit 1048575)) (.lit 0)) (.node (.cmp .eql (.wrap .i64 (.shr .i32 (.shl .i32 (.wrap .i32 (.var 0)) (.lit 20)) (.lit 20))) (.wrap .i32 (.var 0))) (.ret (.bool (.lit false))) (.node (.cmp .geq (.wrap .i32 (.var 0)) (.lit 0)) (.ret (.bool (.not (.cmp .lss (.wrap .i32 (.var 0)) (.lit 2048))))) (.ret (.bool (.lit true))))) (.ret (.bool (.lit true)))))))
theorem splits_eq : callTop Try.prog noSum 60 3 [.int .i64 (.var 0), .int .i64 (.var 1)] [] = splitsT := by kernel_rfl
theorem splits_good (η : Env) : splitsT.good η := by
  simp only [splitsT, T.good, B.prop, E.den, propI, low_eq, low_wrap, low_wrap64, low_wrap32, up_eq]
  have h1 := parts (η.i 0)
  have h2 := parts (η.i 1)
  have h3 := same (η.i 0) (η.i 1)
  have h4 : IntKind.u32.wrap (η.i 0) = IntKind.u32.wrap (η.i 1) → (IntKind.i32.wrap (η.i 0) + 2048) / 4096 % 1048576 = (IntKind.i32.wrap (η.i 1) + 2048) / 4096 % 1048576 ∧ (IntKind.i32.wrap (η.i 0) + 2048) % 4096 = (IntKind.i32.wrap (η.i 1) + 2048) % 4096 := by
    intro h; rw [h3 h]; exact ⟨rfl, rfl⟩
  have h5 : -2147483648 ≤ IntKind.i32.wrap (η.i 0) ∧ IntKind.i32.wrap (η.i 0) < 2147483648 := by rw [wrap_i32]; omega
  clear h3
  generalize IntKind.u32.wrap (η.i 0) = p at *
  generalize IntKind.u32.wrap (η.i 1) = q at *
  generalize IntKind.i32.wrap (η.i 0) = x at *
  generalize IntKind.i32.wrap (η.i 1) = y at *
  repeat' first | apply And.intro | intro _
  all_goals first | trivial | omega
theorem splits_walk (a0 a1 : Int) (w0 : (Lit.int .i64 a0).wf = true) (w1 : (Lit.int .i64 a1).wf = true) (W : World) :
    Calls Try.prog 3 #[.int .i64 a0, .int .i64 a1] W fun e W' => e = .returned (.bool true) ∧ Below W.heap.size W W' := by
  refine law_ok (η := { i := fun n => if n = 0 then a0 else a1 }) (plain_of (by kernel_rfl)) (by kernel_rfl) (noSum_ok _ _) (args := [.int .i64 (.var 0), .int .i64 (.var 1)]) (args' := [.int .i64 a0, .int .i64 a1])
    (.cons _ _ _ _ (.int _ _) (.cons _ _ _ _ (.int _ _) .nil)) (n := 60) facts_none ?_ W
  rw [splits_eq]
  exact T.good_yes (splits_good _)
end Go.Proofs.Ytfgbhpfdcekmjaa.Sx
