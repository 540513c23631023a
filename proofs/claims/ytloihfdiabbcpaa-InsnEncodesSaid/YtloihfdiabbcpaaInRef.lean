/- The document's instructions: which are taken, their words, their fields. -/
import Derived.Test.YtloihfdiabbcpaaProg
import Derived.Test.YtloihfdiabbcpaaSxSum
import Derived.Test.YtloihfdiabbcpaaInLaw
namespace Go.Proofs.Ytloihfdiabbcpaa.Sx
open Go Go.RowKit
set_option linter.unusedVariables false
set_option linter.unusedSimpArgs false
set_option maxRecDepth 100000
/-- All ways of a tree of truths say the same. -/
def T.says (η : Env) (p : Prop) : T V → Prop
  | .ret (.bool b) => b.prop η ↔ p
  | .ret _ => False
  | .node b t e => (b.prop η → t.says η p) ∧ (¬ b.prop η → e.says η p)
  | .fail _ => False
theorem T.says_gives {η : Env} {x : Bool} : ∀ {t : T V}, t.says η (x = true) → t.gives η (.bool x)
  | .ret v, h => by
    cases v <;> simp only [T.says] at h
    rename_i b
    have e : b.den η = x := by rw [Bool.eq_iff_iff, B.prop_iff]; exact h
    simp only [T.gives, V.val, e]
  | .node b t e, h => ⟨fun hb => T.says_gives (h.1 hb), fun hb => T.says_gives (h.2 hb)⟩
  | .fail n, h => h.elim
def formS (f : Nat) : List UInt8 := match f with | 0 => [85] | 1 => [74] | 2 => [73] | 3 => [115, 104, 105, 102, 116] | 4 => [66] | 5 => [83] | 6 => [82] | _ => [69]
def envR (nm : ByteArray) (a b c n o f3 f7 : Int) : Env := { i := fun m => if m = 0 then a else if m = 1 then b else if m = 2 then c else if m = 3 then n else if m = 4 then o else if m = 5 then f3 else f7, s := fun _ => nm }
theorem rsn (nm : ByteArray) (a b c n o f3 f7 : Int) (j : Nat) : (envR nm a b c n o f3 f7).s j = nm := rfl
theorem r0 (nm : ByteArray) (a b c n o f3 f7 : Int) : (envR nm a b c n o f3 f7).i 0 = a := rfl
theorem r1 (nm : ByteArray) (a b c n o f3 f7 : Int) : (envR nm a b c n o f3 f7).i 1 = b := rfl
theorem r2 (nm : ByteArray) (a b c n o f3 f7 : Int) : (envR nm a b c n o f3 f7).i 2 = c := rfl
theorem r3 (nm : ByteArray) (a b c n o f3 f7 : Int) : (envR nm a b c n o f3 f7).i 3 = n := rfl
theorem r4 (nm : ByteArray) (a b c n o f3 f7 : Int) : (envR nm a b c n o f3 f7).i 4 = o := rfl
theorem r5 (nm : ByteArray) (a b c n o f3 f7 : Int) : (envR nm a b c n o f3 f7).i 5 = f3 := rfl
theorem r6 (nm : ByteArray) (a b c n o f3 f7 : Int) : (envR nm a b c n o f3 f7).i 6 = f7 := rfl
theorem tdq (x k : Int) : (x % 4294967296).tdiv k = x % 4294967296 / k := Int.tdiv_eq_ediv_of_nonneg (by omega)
theorem amt (x : Int) : (x % 4294967296 + 4294967296).tmod 4294967296 = x % 4294967296 := by rw [Int.tmod_eq_emod_of_nonneg (by omega)]; omega
theorem pcR {x k m : Int} (hk : 0 < k) : (IntKind.i64.wrap (x % 4294967296 / k)).tmod m = x % 4294967296 / k % m := by
  have h0 : 0 ≤ x % 4294967296 / k := Int.ediv_nonneg (by omega) (by omega)
  have h1 : x % 4294967296 / k ≤ x % 4294967296 := Int.ediv_le_self _ (by omega)
  rw [show IntKind.i64.wrap (x % 4294967296 / k) = x % 4294967296 / k from by rw [wrap_i64]; omega, Int.tmod_eq_emod_of_nonneg h0]
def takes0T : T V := (.node (.cmp .geq (.var 0) (.lit 0)) (.node (.cmp .leq (.var 0) (.lit 31)) (.node (.cmp .geq (.var 1) (.lit 0)) (.node (.cmp .leq (.var 1) (.lit 31)) (.node (.cmp .geq (.var 2) (.lit 0)) (.node (.cmp .leq (.var 2) (.lit 31)) (.node (.cmp .eql (.var 1) (.lit 0)) (.node (.cmp .eql (.var 2) (.lit 0)) (.node (.cmp .geq (.var 3) (.lit 0)) (.ret (.bool (.cmp .leq (.var 3) (.lit 1048575)))) (.ret (.bool (.lit false)))) (.ret (.bool (.lit false)))) (.ret (.bool (.lit false)))) (.ret (.bool (.lit false)))) (.ret (.bool (.lit false)))) (.ret (.bool (.lit false)))) (.ret (.bool (.lit false)))) (.ret (.bool (.lit false)))) (.ret (.bool (.lit false))))
theorem takes0_eq : callTop Try.prog noSum 60 21 [.agg [.str (.var 2), .str (.lit [85]), .int .i64 (.var 4), .int .i64 (.var 5), .int .i64 (.var 6)], .agg [.str (.var 1), .int .i64 (.var 0), .int .i64 (.var 1), .int .i64 (.var 2), .int .i64 (.var 3)]] [] = takes0T := by kernel_rfl
theorem takes0_calls (nm op : ByteArray) (o f3 f7 a b c n : Int) (W : World) : Calls Try.prog 21 #[.agg #[.string nm, .string ⟨([85] : List UInt8).toArray⟩, .int .i64 o, .int .i64 f3, .int .i64 f7], .agg #[.string op, .int .i64 a, .int .i64 b, .int .i64 c, .int .i64 n]] W fun e W' => e = .returned (.bool (okF 0 a b c n)) ∧ Below W.heap.size W W' := by
  refine contract (η := { i := (envR nm a b c n o f3 f7).i, s := fun j => if j = 1 then op else nm }) in_plain in_follows (noSum_ok _ _) (n := 60) (args := [.agg [.str (.var 2), .str (.lit [85]), .int .i64 (.var 4), .int .i64 (.var 5), .int .i64 (.var 6)], .agg [.str (.var 1), .int .i64 (.var 0), .int .i64 (.var 1), .int .i64 (.var 2), .int .i64 (.var 3)]]) (args' := [.agg #[.string nm, .string ⟨([85] : List UInt8).toArray⟩, .int .i64 o, .int .i64 f3, .int .i64 f7], .agg #[.string op, .int .i64 a, .int .i64 b, .int .i64 c, .int .i64 n]]) (.cons _ _ _ _ (.agg _ [.string nm, .string ⟨([85] : List UInt8).toArray⟩, .int .i64 o, .int .i64 f3, .int .i64 f7] (.cons _ _ _ _ (.str (.var 2)) (.cons _ _ _ _ (.str (.lit [85])) (.cons _ _ _ _ (.int _ (.var 4)) (.cons _ _ _ _ (.int _ (.var 5)) (.cons _ _ _ _ (.int _ (.var 6)) .nil)))))) (.cons _ _ _ _ (.agg _ [.string op, .int .i64 a, .int .i64 b, .int .i64 c, .int .i64 n] (.cons _ _ _ _ (.str (.var 1)) (.cons _ _ _ _ (.int _ (.var 0)) (.cons _ _ _ _ (.int _ (.var 1)) (.cons _ _ _ _ (.int _ (.var 2)) (.cons _ _ _ _ (.int _ (.var 3)) .nil)))))) .nil)) facts_none ?_ W
  rw [takes0_eq]
  apply T.says_gives
  simp only [takes0T, T.says, B.prop, E.den, propI, r0, r1, r2, r3, ok_0, tmod2, Bool.false_eq_true, false_iff]
  repeat' first | apply And.intro | intro _
  all_goals omega
def takes1T : T V := (.node (.cmp .geq (.var 0) (.lit 0)) (.node (.cmp .leq (.var 0) (.lit 31)) (.node (.cmp .geq (.var 1) (.lit 0)) (.node (.cmp .leq (.var 1) (.lit 31)) (.node (.cmp .geq (.var 2) (.lit 0)) (.node (.cmp .leq (.var 2) (.lit 31)) (.node (.cmp .eql (.var 1) (.lit 0)) (.node (.cmp .eql (.var 2) (.lit 0)) (.node (.cmp .geq (.var 3) (.lit (-1048576))) (.node (.cmp .leq (.var 3) (.lit 1048574)) (.ret (.bool (.cmp .eql (.rem (.var 3) (.lit 2)) (.lit 0)))) (.ret (.bool (.lit false)))) (.ret (.bool (.lit false)))) (.ret (.bool (.lit false)))) (.ret (.bool (.lit false)))) (.ret (.bool (.lit false)))) (.ret (.bool (.lit false)))) (.ret (.bool (.lit false)))) (.ret (.bool (.lit false)))) (.ret (.bool (.lit false)))) (.ret (.bool (.lit false))))
theorem takes1_eq : callTop Try.prog noSum 60 21 [.agg [.str (.var 2), .str (.lit [74]), .int .i64 (.var 4), .int .i64 (.var 5), .int .i64 (.var 6)], .agg [.str (.var 1), .int .i64 (.var 0), .int .i64 (.var 1), .int .i64 (.var 2), .int .i64 (.var 3)]] [] = takes1T := by kernel_rfl
theorem takes1_calls (nm op : ByteArray) (o f3 f7 a b c n : Int) (W : World) : Calls Try.prog 21 #[.agg #[.string nm, .string ⟨([74] : List UInt8).toArray⟩, .int .i64 o, .int .i64 f3, .int .i64 f7], .agg #[.string op, .int .i64 a, .int .i64 b, .int .i64 c, .int .i64 n]] W fun e W' => e = .returned (.bool (okF 1 a b c n)) ∧ Below W.heap.size W W' := by
  refine contract (η := { i := (envR nm a b c n o f3 f7).i, s := fun j => if j = 1 then op else nm }) in_plain in_follows (noSum_ok _ _) (n := 60) (args := [.agg [.str (.var 2), .str (.lit [74]), .int .i64 (.var 4), .int .i64 (.var 5), .int .i64 (.var 6)], .agg [.str (.var 1), .int .i64 (.var 0), .int .i64 (.var 1), .int .i64 (.var 2), .int .i64 (.var 3)]]) (args' := [.agg #[.string nm, .string ⟨([74] : List UInt8).toArray⟩, .int .i64 o, .int .i64 f3, .int .i64 f7], .agg #[.string op, .int .i64 a, .int .i64 b, .int .i64 c, .int .i64 n]]) (.cons _ _ _ _ (.agg _ [.string nm, .string ⟨([74] : List UInt8).toArray⟩, .int .i64 o, .int .i64 f3, .int .i64 f7] (.cons _ _ _ _ (.str (.var 2)) (.cons _ _ _ _ (.str (.lit [74])) (.cons _ _ _ _ (.int _ (.var 4)) (.cons _ _ _ _ (.int _ (.var 5)) (.cons _ _ _ _ (.int _ (.var 6)) .nil)))))) (.cons _ _ _ _ (.agg _ [.string op, .int .i64 a, .int .i64 b, .int .i64 c, .int .i64 n] (.cons _ _ _ _ (.str (.var 1)) (.cons _ _ _ _ (.int _ (.var 0)) (.cons _ _ _ _ (.int _ (.var 1)) (.cons _ _ _ _ (.int _ (.var 2)) (.cons _ _ _ _ (.int _ (.var 3)) .nil)))))) .nil)) facts_none ?_ W
  rw [takes1_eq]
  apply T.says_gives
  simp only [takes1T, T.says, B.prop, E.den, propI, r0, r1, r2, r3, ok_1, tmod2, Bool.false_eq_true, false_iff]
  repeat' first | apply And.intro | intro _
  all_goals omega
def takes2T : T V := (.node (.cmp .geq (.var 0) (.lit 0)) (.node (.cmp .leq (.var 0) (.lit 31)) (.node (.cmp .geq (.var 1) (.lit 0)) (.node (.cmp .leq (.var 1) (.lit 31)) (.node (.cmp .geq (.var 2) (.lit 0)) (.node (.cmp .leq (.var 2) (.lit 31)) (.node (.cmp .eql (.var 2) (.lit 0)) (.node (.cmp .geq (.var 3) (.lit (-2048))) (.ret (.bool (.cmp .leq (.var 3) (.lit 2047)))) (.ret (.bool (.lit false)))) (.ret (.bool (.lit false)))) (.ret (.bool (.lit false)))) (.ret (.bool (.lit false)))) (.ret (.bool (.lit false)))) (.ret (.bool (.lit false)))) (.ret (.bool (.lit false)))) (.ret (.bool (.lit false))))
theorem takes2_eq : callTop Try.prog noSum 60 21 [.agg [.str (.var 2), .str (.lit [73]), .int .i64 (.var 4), .int .i64 (.var 5), .int .i64 (.var 6)], .agg [.str (.var 1), .int .i64 (.var 0), .int .i64 (.var 1), .int .i64 (.var 2), .int .i64 (.var 3)]] [] = takes2T := by kernel_rfl
theorem takes2_calls (nm op : ByteArray) (o f3 f7 a b c n : Int) (W : World) : Calls Try.prog 21 #[.agg #[.string nm, .string ⟨([73] : List UInt8).toArray⟩, .int .i64 o, .int .i64 f3, .int .i64 f7], .agg #[.string op, .int .i64 a, .int .i64 b, .int .i64 c, .int .i64 n]] W fun e W' => e = .returned (.bool (okF 2 a b c n)) ∧ Below W.heap.size W W' := by
  refine contract (η := { i := (envR nm a b c n o f3 f7).i, s := fun j => if j = 1 then op else nm }) in_plain in_follows (noSum_ok _ _) (n := 60) (args := [.agg [.str (.var 2), .str (.lit [73]), .int .i64 (.var 4), .int .i64 (.var 5), .int .i64 (.var 6)], .agg [.str (.var 1), .int .i64 (.var 0), .int .i64 (.var 1), .int .i64 (.var 2), .int .i64 (.var 3)]]) (args' := [.agg #[.string nm, .string ⟨([73] : List UInt8).toArray⟩, .int .i64 o, .int .i64 f3, .int .i64 f7], .agg #[.string op, .int .i64 a, .int .i64 b, .int .i64 c, .int .i64 n]]) (.cons _ _ _ _ (.agg _ [.string nm, .string ⟨([73] : List UInt8).toArray⟩, .int .i64 o, .int .i64 f3, .int .i64 f7] (.cons _ _ _ _ (.str (.var 2)) (.cons _ _ _ _ (.str (.lit [73])) (.cons _ _ _ _ (.int _ (.var 4)) (.cons _ _ _ _ (.int _ (.var 5)) (.cons _ _ _ _ (.int _ (.var 6)) .nil)))))) (.cons _ _ _ _ (.agg _ [.string op, .int .i64 a, .int .i64 b, .int .i64 c, .int .i64 n] (.cons _ _ _ _ (.str (.var 1)) (.cons _ _ _ _ (.int _ (.var 0)) (.cons _ _ _ _ (.int _ (.var 1)) (.cons _ _ _ _ (.int _ (.var 2)) (.cons _ _ _ _ (.int _ (.var 3)) .nil)))))) .nil)) facts_none ?_ W
  rw [takes2_eq]
  apply T.says_gives
  simp only [takes2T, T.says, B.prop, E.den, propI, r0, r1, r2, r3, ok_2, tmod2, Bool.false_eq_true, false_iff]
  repeat' first | apply And.intro | intro _
  all_goals omega
def takes3T : T V := (.node (.cmp .geq (.var 0) (.lit 0)) (.node (.cmp .leq (.var 0) (.lit 31)) (.node (.cmp .geq (.var 1) (.lit 0)) (.node (.cmp .leq (.var 1) (.lit 31)) (.node (.cmp .geq (.var 2) (.lit 0)) (.node (.cmp .leq (.var 2) (.lit 31)) (.node (.cmp .eql (.var 2) (.lit 0)) (.node (.cmp .geq (.var 3) (.lit 0)) (.ret (.bool (.cmp .leq (.var 3) (.lit 31)))) (.ret (.bool (.lit false)))) (.ret (.bool (.lit false)))) (.ret (.bool (.lit false)))) (.ret (.bool (.lit false)))) (.ret (.bool (.lit false)))) (.ret (.bool (.lit false)))) (.ret (.bool (.lit false)))) (.ret (.bool (.lit false))))
theorem takes3_eq : callTop Try.prog noSum 60 21 [.agg [.str (.var 2), .str (.lit [115, 104, 105, 102, 116]), .int .i64 (.var 4), .int .i64 (.var 5), .int .i64 (.var 6)], .agg [.str (.var 1), .int .i64 (.var 0), .int .i64 (.var 1), .int .i64 (.var 2), .int .i64 (.var 3)]] [] = takes3T := by kernel_rfl
theorem takes3_calls (nm op : ByteArray) (o f3 f7 a b c n : Int) (W : World) : Calls Try.prog 21 #[.agg #[.string nm, .string ⟨([115, 104, 105, 102, 116] : List UInt8).toArray⟩, .int .i64 o, .int .i64 f3, .int .i64 f7], .agg #[.string op, .int .i64 a, .int .i64 b, .int .i64 c, .int .i64 n]] W fun e W' => e = .returned (.bool (okF 3 a b c n)) ∧ Below W.heap.size W W' := by
  refine contract (η := { i := (envR nm a b c n o f3 f7).i, s := fun j => if j = 1 then op else nm }) in_plain in_follows (noSum_ok _ _) (n := 60) (args := [.agg [.str (.var 2), .str (.lit [115, 104, 105, 102, 116]), .int .i64 (.var 4), .int .i64 (.var 5), .int .i64 (.var 6)], .agg [.str (.var 1), .int .i64 (.var 0), .int .i64 (.var 1), .int .i64 (.var 2), .int .i64 (.var 3)]]) (args' := [.agg #[.string nm, .string ⟨([115, 104, 105, 102, 116] : List UInt8).toArray⟩, .int .i64 o, .int .i64 f3, .int .i64 f7], .agg #[.string op, .int .i64 a, .int .i64 b, .int .i64 c, .int .i64 n]]) (.cons _ _ _ _ (.agg _ [.string nm, .string ⟨([115, 104, 105, 102, 116] : List UInt8).toArray⟩, .int .i64 o, .int .i64 f3, .int .i64 f7] (.cons _ _ _ _ (.str (.var 2)) (.cons _ _ _ _ (.str (.lit [115, 104, 105, 102, 116])) (.cons _ _ _ _ (.int _ (.var 4)) (.cons _ _ _ _ (.int _ (.var 5)) (.cons _ _ _ _ (.int _ (.var 6)) .nil)))))) (.cons _ _ _ _ (.agg _ [.string op, .int .i64 a, .int .i64 b, .int .i64 c, .int .i64 n] (.cons _ _ _ _ (.str (.var 1)) (.cons _ _ _ _ (.int _ (.var 0)) (.cons _ _ _ _ (.int _ (.var 1)) (.cons _ _ _ _ (.int _ (.var 2)) (.cons _ _ _ _ (.int _ (.var 3)) .nil)))))) .nil)) facts_none ?_ W
  rw [takes3_eq]
  apply T.says_gives
  simp only [takes3T, T.says, B.prop, E.den, propI, r0, r1, r2, r3, ok_3, tmod2, Bool.false_eq_true, false_iff]
  repeat' first | apply And.intro | intro _
  all_goals omega
def takes4T : T V := (.node (.cmp .geq (.var 0) (.lit 0)) (.node (.cmp .leq (.var 0) (.lit 31)) (.node (.cmp .geq (.var 1) (.lit 0)) (.node (.cmp .leq (.var 1) (.lit 31)) (.node (.cmp .geq (.var 2) (.lit 0)) (.node (.cmp .leq (.var 2) (.lit 31)) (.node (.cmp .eql (.var 0) (.lit 0)) (.node (.cmp .geq (.var 3) (.lit (-4096))) (.node (.cmp .leq (.var 3) (.lit 4094)) (.ret (.bool (.cmp .eql (.rem (.var 3) (.lit 2)) (.lit 0)))) (.ret (.bool (.lit false)))) (.ret (.bool (.lit false)))) (.ret (.bool (.lit false)))) (.ret (.bool (.lit false)))) (.ret (.bool (.lit false)))) (.ret (.bool (.lit false)))) (.ret (.bool (.lit false)))) (.ret (.bool (.lit false)))) (.ret (.bool (.lit false))))
theorem takes4_eq : callTop Try.prog noSum 60 21 [.agg [.str (.var 2), .str (.lit [66]), .int .i64 (.var 4), .int .i64 (.var 5), .int .i64 (.var 6)], .agg [.str (.var 1), .int .i64 (.var 0), .int .i64 (.var 1), .int .i64 (.var 2), .int .i64 (.var 3)]] [] = takes4T := by kernel_rfl
theorem takes4_calls (nm op : ByteArray) (o f3 f7 a b c n : Int) (W : World) : Calls Try.prog 21 #[.agg #[.string nm, .string ⟨([66] : List UInt8).toArray⟩, .int .i64 o, .int .i64 f3, .int .i64 f7], .agg #[.string op, .int .i64 a, .int .i64 b, .int .i64 c, .int .i64 n]] W fun e W' => e = .returned (.bool (okF 4 a b c n)) ∧ Below W.heap.size W W' := by
  refine contract (η := { i := (envR nm a b c n o f3 f7).i, s := fun j => if j = 1 then op else nm }) in_plain in_follows (noSum_ok _ _) (n := 60) (args := [.agg [.str (.var 2), .str (.lit [66]), .int .i64 (.var 4), .int .i64 (.var 5), .int .i64 (.var 6)], .agg [.str (.var 1), .int .i64 (.var 0), .int .i64 (.var 1), .int .i64 (.var 2), .int .i64 (.var 3)]]) (args' := [.agg #[.string nm, .string ⟨([66] : List UInt8).toArray⟩, .int .i64 o, .int .i64 f3, .int .i64 f7], .agg #[.string op, .int .i64 a, .int .i64 b, .int .i64 c, .int .i64 n]]) (.cons _ _ _ _ (.agg _ [.string nm, .string ⟨([66] : List UInt8).toArray⟩, .int .i64 o, .int .i64 f3, .int .i64 f7] (.cons _ _ _ _ (.str (.var 2)) (.cons _ _ _ _ (.str (.lit [66])) (.cons _ _ _ _ (.int _ (.var 4)) (.cons _ _ _ _ (.int _ (.var 5)) (.cons _ _ _ _ (.int _ (.var 6)) .nil)))))) (.cons _ _ _ _ (.agg _ [.string op, .int .i64 a, .int .i64 b, .int .i64 c, .int .i64 n] (.cons _ _ _ _ (.str (.var 1)) (.cons _ _ _ _ (.int _ (.var 0)) (.cons _ _ _ _ (.int _ (.var 1)) (.cons _ _ _ _ (.int _ (.var 2)) (.cons _ _ _ _ (.int _ (.var 3)) .nil)))))) .nil)) facts_none ?_ W
  rw [takes4_eq]
  apply T.says_gives
  simp only [takes4T, T.says, B.prop, E.den, propI, r0, r1, r2, r3, ok_4, tmod2, Bool.false_eq_true, false_iff]
  repeat' first | apply And.intro | intro _
  all_goals omega
def takes5T : T V := (.node (.cmp .geq (.var 0) (.lit 0)) (.node (.cmp .leq (.var 0) (.lit 31)) (.node (.cmp .geq (.var 1) (.lit 0)) (.node (.cmp .leq (.var 1) (.lit 31)) (.node (.cmp .geq (.var 2) (.lit 0)) (.node (.cmp .leq (.var 2) (.lit 31)) (.node (.cmp .eql (.var 0) (.lit 0)) (.node (.cmp .geq (.var 3) (.lit (-2048))) (.ret (.bool (.cmp .leq (.var 3) (.lit 2047)))) (.ret (.bool (.lit false)))) (.ret (.bool (.lit false)))) (.ret (.bool (.lit false)))) (.ret (.bool (.lit false)))) (.ret (.bool (.lit false)))) (.ret (.bool (.lit false)))) (.ret (.bool (.lit false)))) (.ret (.bool (.lit false))))
theorem takes5_eq : callTop Try.prog noSum 60 21 [.agg [.str (.var 2), .str (.lit [83]), .int .i64 (.var 4), .int .i64 (.var 5), .int .i64 (.var 6)], .agg [.str (.var 1), .int .i64 (.var 0), .int .i64 (.var 1), .int .i64 (.var 2), .int .i64 (.var 3)]] [] = takes5T := by kernel_rfl
theorem takes5_calls (nm op : ByteArray) (o f3 f7 a b c n : Int) (W : World) : Calls Try.prog 21 #[.agg #[.string nm, .string ⟨([83] : List UInt8).toArray⟩, .int .i64 o, .int .i64 f3, .int .i64 f7], .agg #[.string op, .int .i64 a, .int .i64 b, .int .i64 c, .int .i64 n]] W fun e W' => e = .returned (.bool (okF 5 a b c n)) ∧ Below W.heap.size W W' := by
  refine contract (η := { i := (envR nm a b c n o f3 f7).i, s := fun j => if j = 1 then op else nm }) in_plain in_follows (noSum_ok _ _) (n := 60) (args := [.agg [.str (.var 2), .str (.lit [83]), .int .i64 (.var 4), .int .i64 (.var 5), .int .i64 (.var 6)], .agg [.str (.var 1), .int .i64 (.var 0), .int .i64 (.var 1), .int .i64 (.var 2), .int .i64 (.var 3)]]) (args' := [.agg #[.string nm, .string ⟨([83] : List UInt8).toArray⟩, .int .i64 o, .int .i64 f3, .int .i64 f7], .agg #[.string op, .int .i64 a, .int .i64 b, .int .i64 c, .int .i64 n]]) (.cons _ _ _ _ (.agg _ [.string nm, .string ⟨([83] : List UInt8).toArray⟩, .int .i64 o, .int .i64 f3, .int .i64 f7] (.cons _ _ _ _ (.str (.var 2)) (.cons _ _ _ _ (.str (.lit [83])) (.cons _ _ _ _ (.int _ (.var 4)) (.cons _ _ _ _ (.int _ (.var 5)) (.cons _ _ _ _ (.int _ (.var 6)) .nil)))))) (.cons _ _ _ _ (.agg _ [.string op, .int .i64 a, .int .i64 b, .int .i64 c, .int .i64 n] (.cons _ _ _ _ (.str (.var 1)) (.cons _ _ _ _ (.int _ (.var 0)) (.cons _ _ _ _ (.int _ (.var 1)) (.cons _ _ _ _ (.int _ (.var 2)) (.cons _ _ _ _ (.int _ (.var 3)) .nil)))))) .nil)) facts_none ?_ W
  rw [takes5_eq]
  apply T.says_gives
  simp only [takes5T, T.says, B.prop, E.den, propI, r0, r1, r2, r3, ok_5, tmod2, Bool.false_eq_true, false_iff]
  repeat' first | apply And.intro | intro _
  all_goals omega
def takes6T : T V := (.node (.cmp .geq (.var 0) (.lit 0)) (.node (.cmp .leq (.var 0) (.lit 31)) (.node (.cmp .geq (.var 1) (.lit 0)) (.node (.cmp .leq (.var 1) (.lit 31)) (.node (.cmp .geq (.var 2) (.lit 0)) (.node (.cmp .leq (.var 2) (.lit 31)) (.ret (.bool (.cmp .eql (.var 3) (.lit 0)))) (.ret (.bool (.lit false)))) (.ret (.bool (.lit false)))) (.ret (.bool (.lit false)))) (.ret (.bool (.lit false)))) (.ret (.bool (.lit false)))) (.ret (.bool (.lit false))))
theorem takes6_eq : callTop Try.prog noSum 60 21 [.agg [.str (.var 2), .str (.lit [82]), .int .i64 (.var 4), .int .i64 (.var 5), .int .i64 (.var 6)], .agg [.str (.var 1), .int .i64 (.var 0), .int .i64 (.var 1), .int .i64 (.var 2), .int .i64 (.var 3)]] [] = takes6T := by kernel_rfl
theorem takes6_calls (nm op : ByteArray) (o f3 f7 a b c n : Int) (W : World) : Calls Try.prog 21 #[.agg #[.string nm, .string ⟨([82] : List UInt8).toArray⟩, .int .i64 o, .int .i64 f3, .int .i64 f7], .agg #[.string op, .int .i64 a, .int .i64 b, .int .i64 c, .int .i64 n]] W fun e W' => e = .returned (.bool (okF 6 a b c n)) ∧ Below W.heap.size W W' := by
  refine contract (η := { i := (envR nm a b c n o f3 f7).i, s := fun j => if j = 1 then op else nm }) in_plain in_follows (noSum_ok _ _) (n := 60) (args := [.agg [.str (.var 2), .str (.lit [82]), .int .i64 (.var 4), .int .i64 (.var 5), .int .i64 (.var 6)], .agg [.str (.var 1), .int .i64 (.var 0), .int .i64 (.var 1), .int .i64 (.var 2), .int .i64 (.var 3)]]) (args' := [.agg #[.string nm, .string ⟨([82] : List UInt8).toArray⟩, .int .i64 o, .int .i64 f3, .int .i64 f7], .agg #[.string op, .int .i64 a, .int .i64 b, .int .i64 c, .int .i64 n]]) (.cons _ _ _ _ (.agg _ [.string nm, .string ⟨([82] : List UInt8).toArray⟩, .int .i64 o, .int .i64 f3, .int .i64 f7] (.cons _ _ _ _ (.str (.var 2)) (.cons _ _ _ _ (.str (.lit [82])) (.cons _ _ _ _ (.int _ (.var 4)) (.cons _ _ _ _ (.int _ (.var 5)) (.cons _ _ _ _ (.int _ (.var 6)) .nil)))))) (.cons _ _ _ _ (.agg _ [.string op, .int .i64 a, .int .i64 b, .int .i64 c, .int .i64 n] (.cons _ _ _ _ (.str (.var 1)) (.cons _ _ _ _ (.int _ (.var 0)) (.cons _ _ _ _ (.int _ (.var 1)) (.cons _ _ _ _ (.int _ (.var 2)) (.cons _ _ _ _ (.int _ (.var 3)) .nil)))))) .nil)) facts_none ?_ W
  rw [takes6_eq]
  apply T.says_gives
  simp only [takes6T, T.says, B.prop, E.den, propI, r0, r1, r2, r3, ok_6, tmod2, Bool.false_eq_true, false_iff]
  repeat' first | apply And.intro | intro _
  all_goals omega
def takes7T : T V := (.node (.cmp .geq (.var 0) (.lit 0)) (.node (.cmp .leq (.var 0) (.lit 31)) (.node (.cmp .geq (.var 1) (.lit 0)) (.node (.cmp .leq (.var 1) (.lit 31)) (.node (.cmp .geq (.var 2) (.lit 0)) (.node (.cmp .leq (.var 2) (.lit 31)) (.node (.cmp .eql (.var 0) (.lit 0)) (.node (.cmp .eql (.var 1) (.lit 0)) (.node (.cmp .eql (.var 2) (.lit 0)) (.ret (.bool (.cmp .eql (.var 3) (.lit 0)))) (.ret (.bool (.lit false)))) (.ret (.bool (.lit false)))) (.ret (.bool (.lit false)))) (.ret (.bool (.lit false)))) (.ret (.bool (.lit false)))) (.ret (.bool (.lit false)))) (.ret (.bool (.lit false)))) (.ret (.bool (.lit false)))) (.ret (.bool (.lit false))))
theorem takes7_eq : callTop Try.prog noSum 60 21 [.agg [.str (.var 2), .str (.lit [69]), .int .i64 (.var 4), .int .i64 (.var 5), .int .i64 (.var 6)], .agg [.str (.var 1), .int .i64 (.var 0), .int .i64 (.var 1), .int .i64 (.var 2), .int .i64 (.var 3)]] [] = takes7T := by kernel_rfl
theorem takes7_calls (nm op : ByteArray) (o f3 f7 a b c n : Int) (W : World) : Calls Try.prog 21 #[.agg #[.string nm, .string ⟨([69] : List UInt8).toArray⟩, .int .i64 o, .int .i64 f3, .int .i64 f7], .agg #[.string op, .int .i64 a, .int .i64 b, .int .i64 c, .int .i64 n]] W fun e W' => e = .returned (.bool (okF 7 a b c n)) ∧ Below W.heap.size W W' := by
  refine contract (η := { i := (envR nm a b c n o f3 f7).i, s := fun j => if j = 1 then op else nm }) in_plain in_follows (noSum_ok _ _) (n := 60) (args := [.agg [.str (.var 2), .str (.lit [69]), .int .i64 (.var 4), .int .i64 (.var 5), .int .i64 (.var 6)], .agg [.str (.var 1), .int .i64 (.var 0), .int .i64 (.var 1), .int .i64 (.var 2), .int .i64 (.var 3)]]) (args' := [.agg #[.string nm, .string ⟨([69] : List UInt8).toArray⟩, .int .i64 o, .int .i64 f3, .int .i64 f7], .agg #[.string op, .int .i64 a, .int .i64 b, .int .i64 c, .int .i64 n]]) (.cons _ _ _ _ (.agg _ [.string nm, .string ⟨([69] : List UInt8).toArray⟩, .int .i64 o, .int .i64 f3, .int .i64 f7] (.cons _ _ _ _ (.str (.var 2)) (.cons _ _ _ _ (.str (.lit [69])) (.cons _ _ _ _ (.int _ (.var 4)) (.cons _ _ _ _ (.int _ (.var 5)) (.cons _ _ _ _ (.int _ (.var 6)) .nil)))))) (.cons _ _ _ _ (.agg _ [.string op, .int .i64 a, .int .i64 b, .int .i64 c, .int .i64 n] (.cons _ _ _ _ (.str (.var 1)) (.cons _ _ _ _ (.int _ (.var 0)) (.cons _ _ _ _ (.int _ (.var 1)) (.cons _ _ _ _ (.int _ (.var 2)) (.cons _ _ _ _ (.int _ (.var 3)) .nil)))))) .nil)) facts_none ?_ W
  rw [takes7_eq]
  apply T.says_gives
  simp only [takes7T, T.says, B.prop, E.den, propI, r0, r1, r2, r3, ok_7, tmod2, Bool.false_eq_true, false_iff]
  repeat' first | apply And.intro | intro _
  all_goals omega
theorem w64 {x : Int} (h : -9223372036854775808 ≤ x ∧ x ≤ 9223372036854775807) : IntKind.i64.wrap x = x := by rw [wrap_i64]; omega
theorem pcR_0 (x m : Int) : (IntKind.i64.wrap (x % 4294967296 / 1)).tmod m = x % 4294967296 / 1 % m := pcR (by decide)
theorem pcR_1 (x m : Int) : (IntKind.i64.wrap (x % 4294967296 / 2)).tmod m = x % 4294967296 / 2 % m := pcR (by decide)
theorem pcR_5 (x m : Int) : (IntKind.i64.wrap (x % 4294967296 / 32)).tmod m = x % 4294967296 / 32 % m := pcR (by decide)
theorem pcR_7 (x m : Int) : (IntKind.i64.wrap (x % 4294967296 / 128)).tmod m = x % 4294967296 / 128 % m := pcR (by decide)
theorem pcR_8 (x m : Int) : (IntKind.i64.wrap (x % 4294967296 / 256)).tmod m = x % 4294967296 / 256 % m := pcR (by decide)
theorem pcR_11 (x m : Int) : (IntKind.i64.wrap (x % 4294967296 / 2048)).tmod m = x % 4294967296 / 2048 % m := pcR (by decide)
theorem pcR_12 (x m : Int) : (IntKind.i64.wrap (x % 4294967296 / 4096)).tmod m = x % 4294967296 / 4096 % m := pcR (by decide)
theorem pcR_15 (x m : Int) : (IntKind.i64.wrap (x % 4294967296 / 32768)).tmod m = x % 4294967296 / 32768 % m := pcR (by decide)
theorem pcR_20 (x m : Int) : (IntKind.i64.wrap (x % 4294967296 / 1048576)).tmod m = x % 4294967296 / 1048576 % m := pcR (by decide)
theorem pcR_21 (x m : Int) : (IntKind.i64.wrap (x % 4294967296 / 2097152)).tmod m = x % 4294967296 / 2097152 % m := pcR (by decide)
theorem pcR_25 (x m : Int) : (IntKind.i64.wrap (x % 4294967296 / 33554432)).tmod m = x % 4294967296 / 33554432 % m := pcR (by decide)
theorem pcR_31 (x m : Int) : (IntKind.i64.wrap (x % 4294967296 / 2147483648)).tmod m = x % 4294967296 / 2147483648 % m := pcR (by decide)
def word0X : E := (.wrap .i64 (.add (.wrap .i64 (.add (.wrap .i64 (.add (.var 4) (.wrap .i64 (.mul (.var 5) (.lit 4096))))) (.wrap .i64 (.mul (.var 0) (.lit 128))))) (.wrap .i64 (.mul (.var 3) (.lit 4096)))))
def word0T : T V := .ret (.int .i64 word0X)
theorem word0_eq : callTop Try.prog noSum 60 22 [.agg [.str (.var 2), .str (.lit [85]), .int .i64 (.var 4), .int .i64 (.var 5), .int .i64 (.var 6)], .agg [.str (.var 1), .int .i64 (.var 0), .int .i64 (.var 1), .int .i64 (.var 2), .int .i64 (.var 3)]] [] = word0T := by kernel_rfl
def word1X : E := (.wrap .i64 (.add (.wrap .i64 (.add (.wrap .i64 (.add (.wrap .i64 (.add (.wrap .i64 (.add (.wrap .i64 (.add (.var 4) (.wrap .i64 (.mul (.var 5) (.lit 4096))))) (.wrap .i64 (.mul (.var 0) (.lit 128))))) (.wrap .i64 (.mul (.rem (.wrap .i64 (.quo (.rem (.add (.rem (.var 3) (.lit 4294967296)) (.lit 4294967296)) (.lit 4294967296)) (.lit 4096))) (.lit 256)) (.lit 4096))))) (.wrap .i64 (.mul (.rem (.wrap .i64 (.quo (.rem (.add (.rem (.var 3) (.lit 4294967296)) (.lit 4294967296)) (.lit 4294967296)) (.lit 2048))) (.lit 2)) (.lit 1048576))))) (.wrap .i64 (.mul (.rem (.wrap .i64 (.quo (.rem (.add (.rem (.var 3) (.lit 4294967296)) (.lit 4294967296)) (.lit 4294967296)) (.lit 2))) (.lit 1024)) (.lit 2097152))))) (.wrap .i64 (.mul (.rem (.wrap .i64 (.quo (.rem (.add (.rem (.var 3) (.lit 4294967296)) (.lit 4294967296)) (.lit 4294967296)) (.lit 1048576))) (.lit 2)) (.lit 2147483648)))))
def word1T : T V := .ret (.int .i64 word1X)
theorem word1_eq : callTop Try.prog noSum 60 22 [.agg [.str (.var 2), .str (.lit [74]), .int .i64 (.var 4), .int .i64 (.var 5), .int .i64 (.var 6)], .agg [.str (.var 1), .int .i64 (.var 0), .int .i64 (.var 1), .int .i64 (.var 2), .int .i64 (.var 3)]] [] = word1T := by kernel_rfl
def word2X : E := (.wrap .i64 (.add (.wrap .i64 (.add (.wrap .i64 (.add (.wrap .i64 (.add (.var 4) (.wrap .i64 (.mul (.var 5) (.lit 4096))))) (.wrap .i64 (.mul (.var 0) (.lit 128))))) (.wrap .i64 (.mul (.var 1) (.lit 32768))))) (.wrap .i64 (.mul (.rem (.wrap .i64 (.quo (.rem (.add (.rem (.var 3) (.lit 4294967296)) (.lit 4294967296)) (.lit 4294967296)) (.lit 1))) (.lit 4096)) (.lit 1048576)))))
def word2T : T V := .ret (.int .i64 word2X)
theorem word2_eq : callTop Try.prog noSum 60 22 [.agg [.str (.var 2), .str (.lit [73]), .int .i64 (.var 4), .int .i64 (.var 5), .int .i64 (.var 6)], .agg [.str (.var 1), .int .i64 (.var 0), .int .i64 (.var 1), .int .i64 (.var 2), .int .i64 (.var 3)]] [] = word2T := by kernel_rfl
def word3X : E := (.wrap .i64 (.add (.wrap .i64 (.add (.wrap .i64 (.add (.wrap .i64 (.add (.wrap .i64 (.add (.var 4) (.wrap .i64 (.mul (.var 5) (.lit 4096))))) (.wrap .i64 (.mul (.var 0) (.lit 128))))) (.wrap .i64 (.mul (.var 1) (.lit 32768))))) (.wrap .i64 (.mul (.var 3) (.lit 1048576))))) (.wrap .i64 (.mul (.var 6) (.lit 33554432)))))
def word3T : T V := .ret (.int .i64 word3X)
theorem word3_eq : callTop Try.prog noSum 60 22 [.agg [.str (.var 2), .str (.lit [115, 104, 105, 102, 116]), .int .i64 (.var 4), .int .i64 (.var 5), .int .i64 (.var 6)], .agg [.str (.var 1), .int .i64 (.var 0), .int .i64 (.var 1), .int .i64 (.var 2), .int .i64 (.var 3)]] [] = word3T := by kernel_rfl
def word4X : E := (.wrap .i64 (.add (.wrap .i64 (.add (.wrap .i64 (.add (.wrap .i64 (.add (.wrap .i64 (.add (.wrap .i64 (.add (.wrap .i64 (.add (.var 4) (.wrap .i64 (.mul (.var 5) (.lit 4096))))) (.wrap .i64 (.mul (.var 1) (.lit 32768))))) (.wrap .i64 (.mul (.var 2) (.lit 1048576))))) (.wrap .i64 (.mul (.rem (.wrap .i64 (.quo (.rem (.add (.rem (.var 3) (.lit 4294967296)) (.lit 4294967296)) (.lit 4294967296)) (.lit 2048))) (.lit 2)) (.lit 128))))) (.wrap .i64 (.mul (.rem (.wrap .i64 (.quo (.rem (.add (.rem (.var 3) (.lit 4294967296)) (.lit 4294967296)) (.lit 4294967296)) (.lit 2))) (.lit 16)) (.lit 256))))) (.wrap .i64 (.mul (.rem (.wrap .i64 (.quo (.rem (.add (.rem (.var 3) (.lit 4294967296)) (.lit 4294967296)) (.lit 4294967296)) (.lit 32))) (.lit 64)) (.lit 33554432))))) (.wrap .i64 (.mul (.rem (.wrap .i64 (.quo (.rem (.add (.rem (.var 3) (.lit 4294967296)) (.lit 4294967296)) (.lit 4294967296)) (.lit 4096))) (.lit 2)) (.lit 2147483648)))))
def word4T : T V := .ret (.int .i64 word4X)
theorem word4_eq : callTop Try.prog noSum 60 22 [.agg [.str (.var 2), .str (.lit [66]), .int .i64 (.var 4), .int .i64 (.var 5), .int .i64 (.var 6)], .agg [.str (.var 1), .int .i64 (.var 0), .int .i64 (.var 1), .int .i64 (.var 2), .int .i64 (.var 3)]] [] = word4T := by kernel_rfl
def word5X : E := (.wrap .i64 (.add (.wrap .i64 (.add (.wrap .i64 (.add (.wrap .i64 (.add (.wrap .i64 (.add (.var 4) (.wrap .i64 (.mul (.var 5) (.lit 4096))))) (.wrap .i64 (.mul (.var 1) (.lit 32768))))) (.wrap .i64 (.mul (.var 2) (.lit 1048576))))) (.wrap .i64 (.mul (.rem (.wrap .i64 (.quo (.rem (.add (.rem (.var 3) (.lit 4294967296)) (.lit 4294967296)) (.lit 4294967296)) (.lit 1))) (.lit 32)) (.lit 128))))) (.wrap .i64 (.mul (.rem (.wrap .i64 (.quo (.rem (.add (.rem (.var 3) (.lit 4294967296)) (.lit 4294967296)) (.lit 4294967296)) (.lit 32))) (.lit 128)) (.lit 33554432)))))
def word5T : T V := .ret (.int .i64 word5X)
theorem word5_eq : callTop Try.prog noSum 60 22 [.agg [.str (.var 2), .str (.lit [83]), .int .i64 (.var 4), .int .i64 (.var 5), .int .i64 (.var 6)], .agg [.str (.var 1), .int .i64 (.var 0), .int .i64 (.var 1), .int .i64 (.var 2), .int .i64 (.var 3)]] [] = word5T := by kernel_rfl
def word6X : E := (.wrap .i64 (.add (.wrap .i64 (.add (.wrap .i64 (.add (.wrap .i64 (.add (.wrap .i64 (.add (.var 4) (.wrap .i64 (.mul (.var 5) (.lit 4096))))) (.wrap .i64 (.mul (.var 0) (.lit 128))))) (.wrap .i64 (.mul (.var 1) (.lit 32768))))) (.wrap .i64 (.mul (.var 2) (.lit 1048576))))) (.wrap .i64 (.mul (.var 6) (.lit 33554432)))))
def word6T : T V := .ret (.int .i64 word6X)
theorem word6_eq : callTop Try.prog noSum 60 22 [.agg [.str (.var 2), .str (.lit [82]), .int .i64 (.var 4), .int .i64 (.var 5), .int .i64 (.var 6)], .agg [.str (.var 1), .int .i64 (.var 0), .int .i64 (.var 1), .int .i64 (.var 2), .int .i64 (.var 3)]] [] = word6T := by kernel_rfl
def word7T : T V := (.node (.seq (.var 2) (.lit [101, 98, 114, 101, 97, 107])) (.ret (.int .i64 (.lit 1048691))) (.ret (.int .i64 (.lit 115))))
theorem word7_eq : callTop Try.prog noSum 60 22 [.agg [.str (.var 2), .str (.lit [69]), .int .i64 (.var 4), .int .i64 (.var 5), .int .i64 (.var 6)], .agg [.str (.var 1), .int .i64 (.var 0), .int .i64 (.var 1), .int .i64 (.var 2), .int .i64 (.var 3)]] [] = word7T := by kernel_rfl
def wordV (f : Nat) (nm : ByteArray) (o f3 f7 a b c n : Int) : Int := match f with
  | 0 => word0X.den (envR nm a b c n o f3 f7)
  | 1 => word1X.den (envR nm a b c n o f3 f7)
  | 2 => word2X.den (envR nm a b c n o f3 f7)
  | 3 => word3X.den (envR nm a b c n o f3 f7)
  | 4 => word4X.den (envR nm a b c n o f3 f7)
  | 5 => word5X.den (envR nm a b c n o f3 f7)
  | 6 => word6X.den (envR nm a b c n o f3 f7)
  | _ => if nm.toList = [101, 98, 114, 101, 97, 107] then 1048691 else 115
theorem word0_calls (nm op : ByteArray) (o f3 f7 a b c n : Int) (W : World) : Calls Try.prog 22 #[.agg #[.string nm, .string ⟨([85] : List UInt8).toArray⟩, .int .i64 o, .int .i64 f3, .int .i64 f7], .agg #[.string op, .int .i64 a, .int .i64 b, .int .i64 c, .int .i64 n]] W fun e W' => e = .returned (.int .i64 (wordV 0 nm o f3 f7 a b c n)) ∧ Below W.heap.size W W' := by
  refine contract (η := { i := (envR nm a b c n o f3 f7).i, s := fun j => if j = 1 then op else nm }) in_plain in_follows (noSum_ok _ _) (n := 60) (args := [.agg [.str (.var 2), .str (.lit [85]), .int .i64 (.var 4), .int .i64 (.var 5), .int .i64 (.var 6)], .agg [.str (.var 1), .int .i64 (.var 0), .int .i64 (.var 1), .int .i64 (.var 2), .int .i64 (.var 3)]]) (args' := [.agg #[.string nm, .string ⟨([85] : List UInt8).toArray⟩, .int .i64 o, .int .i64 f3, .int .i64 f7], .agg #[.string op, .int .i64 a, .int .i64 b, .int .i64 c, .int .i64 n]]) (.cons _ _ _ _ (.agg _ [.string nm, .string ⟨([85] : List UInt8).toArray⟩, .int .i64 o, .int .i64 f3, .int .i64 f7] (.cons _ _ _ _ (.str (.var 2)) (.cons _ _ _ _ (.str (.lit [85])) (.cons _ _ _ _ (.int _ (.var 4)) (.cons _ _ _ _ (.int _ (.var 5)) (.cons _ _ _ _ (.int _ (.var 6)) .nil)))))) (.cons _ _ _ _ (.agg _ [.string op, .int .i64 a, .int .i64 b, .int .i64 c, .int .i64 n] (.cons _ _ _ _ (.str (.var 1)) (.cons _ _ _ _ (.int _ (.var 0)) (.cons _ _ _ _ (.int _ (.var 1)) (.cons _ _ _ _ (.int _ (.var 2)) (.cons _ _ _ _ (.int _ (.var 3)) .nil)))))) .nil)) facts_none ?_ W
  rw [word0_eq]
  simp only [word0T, T.gives, V.val, wordV]
  rfl
theorem word1_calls (nm op : ByteArray) (o f3 f7 a b c n : Int) (W : World) : Calls Try.prog 22 #[.agg #[.string nm, .string ⟨([74] : List UInt8).toArray⟩, .int .i64 o, .int .i64 f3, .int .i64 f7], .agg #[.string op, .int .i64 a, .int .i64 b, .int .i64 c, .int .i64 n]] W fun e W' => e = .returned (.int .i64 (wordV 1 nm o f3 f7 a b c n)) ∧ Below W.heap.size W W' := by
  refine contract (η := { i := (envR nm a b c n o f3 f7).i, s := fun j => if j = 1 then op else nm }) in_plain in_follows (noSum_ok _ _) (n := 60) (args := [.agg [.str (.var 2), .str (.lit [74]), .int .i64 (.var 4), .int .i64 (.var 5), .int .i64 (.var 6)], .agg [.str (.var 1), .int .i64 (.var 0), .int .i64 (.var 1), .int .i64 (.var 2), .int .i64 (.var 3)]]) (args' := [.agg #[.string nm, .string ⟨([74] : List UInt8).toArray⟩, .int .i64 o, .int .i64 f3, .int .i64 f7], .agg #[.string op, .int .i64 a, .int .i64 b, .int .i64 c, .int .i64 n]]) (.cons _ _ _ _ (.agg _ [.string nm, .string ⟨([74] : List UInt8).toArray⟩, .int .i64 o, .int .i64 f3, .int .i64 f7] (.cons _ _ _ _ (.str (.var 2)) (.cons _ _ _ _ (.str (.lit [74])) (.cons _ _ _ _ (.int _ (.var 4)) (.cons _ _ _ _ (.int _ (.var 5)) (.cons _ _ _ _ (.int _ (.var 6)) .nil)))))) (.cons _ _ _ _ (.agg _ [.string op, .int .i64 a, .int .i64 b, .int .i64 c, .int .i64 n] (.cons _ _ _ _ (.str (.var 1)) (.cons _ _ _ _ (.int _ (.var 0)) (.cons _ _ _ _ (.int _ (.var 1)) (.cons _ _ _ _ (.int _ (.var 2)) (.cons _ _ _ _ (.int _ (.var 3)) .nil)))))) .nil)) facts_none ?_ W
  rw [word1_eq]
  simp only [word1T, T.gives, V.val, wordV]
  rfl
theorem word2_calls (nm op : ByteArray) (o f3 f7 a b c n : Int) (W : World) : Calls Try.prog 22 #[.agg #[.string nm, .string ⟨([73] : List UInt8).toArray⟩, .int .i64 o, .int .i64 f3, .int .i64 f7], .agg #[.string op, .int .i64 a, .int .i64 b, .int .i64 c, .int .i64 n]] W fun e W' => e = .returned (.int .i64 (wordV 2 nm o f3 f7 a b c n)) ∧ Below W.heap.size W W' := by
  refine contract (η := { i := (envR nm a b c n o f3 f7).i, s := fun j => if j = 1 then op else nm }) in_plain in_follows (noSum_ok _ _) (n := 60) (args := [.agg [.str (.var 2), .str (.lit [73]), .int .i64 (.var 4), .int .i64 (.var 5), .int .i64 (.var 6)], .agg [.str (.var 1), .int .i64 (.var 0), .int .i64 (.var 1), .int .i64 (.var 2), .int .i64 (.var 3)]]) (args' := [.agg #[.string nm, .string ⟨([73] : List UInt8).toArray⟩, .int .i64 o, .int .i64 f3, .int .i64 f7], .agg #[.string op, .int .i64 a, .int .i64 b, .int .i64 c, .int .i64 n]]) (.cons _ _ _ _ (.agg _ [.string nm, .string ⟨([73] : List UInt8).toArray⟩, .int .i64 o, .int .i64 f3, .int .i64 f7] (.cons _ _ _ _ (.str (.var 2)) (.cons _ _ _ _ (.str (.lit [73])) (.cons _ _ _ _ (.int _ (.var 4)) (.cons _ _ _ _ (.int _ (.var 5)) (.cons _ _ _ _ (.int _ (.var 6)) .nil)))))) (.cons _ _ _ _ (.agg _ [.string op, .int .i64 a, .int .i64 b, .int .i64 c, .int .i64 n] (.cons _ _ _ _ (.str (.var 1)) (.cons _ _ _ _ (.int _ (.var 0)) (.cons _ _ _ _ (.int _ (.var 1)) (.cons _ _ _ _ (.int _ (.var 2)) (.cons _ _ _ _ (.int _ (.var 3)) .nil)))))) .nil)) facts_none ?_ W
  rw [word2_eq]
  simp only [word2T, T.gives, V.val, wordV]
  rfl
theorem word3_calls (nm op : ByteArray) (o f3 f7 a b c n : Int) (W : World) : Calls Try.prog 22 #[.agg #[.string nm, .string ⟨([115, 104, 105, 102, 116] : List UInt8).toArray⟩, .int .i64 o, .int .i64 f3, .int .i64 f7], .agg #[.string op, .int .i64 a, .int .i64 b, .int .i64 c, .int .i64 n]] W fun e W' => e = .returned (.int .i64 (wordV 3 nm o f3 f7 a b c n)) ∧ Below W.heap.size W W' := by
  refine contract (η := { i := (envR nm a b c n o f3 f7).i, s := fun j => if j = 1 then op else nm }) in_plain in_follows (noSum_ok _ _) (n := 60) (args := [.agg [.str (.var 2), .str (.lit [115, 104, 105, 102, 116]), .int .i64 (.var 4), .int .i64 (.var 5), .int .i64 (.var 6)], .agg [.str (.var 1), .int .i64 (.var 0), .int .i64 (.var 1), .int .i64 (.var 2), .int .i64 (.var 3)]]) (args' := [.agg #[.string nm, .string ⟨([115, 104, 105, 102, 116] : List UInt8).toArray⟩, .int .i64 o, .int .i64 f3, .int .i64 f7], .agg #[.string op, .int .i64 a, .int .i64 b, .int .i64 c, .int .i64 n]]) (.cons _ _ _ _ (.agg _ [.string nm, .string ⟨([115, 104, 105, 102, 116] : List UInt8).toArray⟩, .int .i64 o, .int .i64 f3, .int .i64 f7] (.cons _ _ _ _ (.str (.var 2)) (.cons _ _ _ _ (.str (.lit [115, 104, 105, 102, 116])) (.cons _ _ _ _ (.int _ (.var 4)) (.cons _ _ _ _ (.int _ (.var 5)) (.cons _ _ _ _ (.int _ (.var 6)) .nil)))))) (.cons _ _ _ _ (.agg _ [.string op, .int .i64 a, .int .i64 b, .int .i64 c, .int .i64 n] (.cons _ _ _ _ (.str (.var 1)) (.cons _ _ _ _ (.int _ (.var 0)) (.cons _ _ _ _ (.int _ (.var 1)) (.cons _ _ _ _ (.int _ (.var 2)) (.cons _ _ _ _ (.int _ (.var 3)) .nil)))))) .nil)) facts_none ?_ W
  rw [word3_eq]
  simp only [word3T, T.gives, V.val, wordV]
  rfl
theorem word4_calls (nm op : ByteArray) (o f3 f7 a b c n : Int) (W : World) : Calls Try.prog 22 #[.agg #[.string nm, .string ⟨([66] : List UInt8).toArray⟩, .int .i64 o, .int .i64 f3, .int .i64 f7], .agg #[.string op, .int .i64 a, .int .i64 b, .int .i64 c, .int .i64 n]] W fun e W' => e = .returned (.int .i64 (wordV 4 nm o f3 f7 a b c n)) ∧ Below W.heap.size W W' := by
  refine contract (η := { i := (envR nm a b c n o f3 f7).i, s := fun j => if j = 1 then op else nm }) in_plain in_follows (noSum_ok _ _) (n := 60) (args := [.agg [.str (.var 2), .str (.lit [66]), .int .i64 (.var 4), .int .i64 (.var 5), .int .i64 (.var 6)], .agg [.str (.var 1), .int .i64 (.var 0), .int .i64 (.var 1), .int .i64 (.var 2), .int .i64 (.var 3)]]) (args' := [.agg #[.string nm, .string ⟨([66] : List UInt8).toArray⟩, .int .i64 o, .int .i64 f3, .int .i64 f7], .agg #[.string op, .int .i64 a, .int .i64 b, .int .i64 c, .int .i64 n]]) (.cons _ _ _ _ (.agg _ [.string nm, .string ⟨([66] : List UInt8).toArray⟩, .int .i64 o, .int .i64 f3, .int .i64 f7] (.cons _ _ _ _ (.str (.var 2)) (.cons _ _ _ _ (.str (.lit [66])) (.cons _ _ _ _ (.int _ (.var 4)) (.cons _ _ _ _ (.int _ (.var 5)) (.cons _ _ _ _ (.int _ (.var 6)) .nil)))))) (.cons _ _ _ _ (.agg _ [.string op, .int .i64 a, .int .i64 b, .int .i64 c, .int .i64 n] (.cons _ _ _ _ (.str (.var 1)) (.cons _ _ _ _ (.int _ (.var 0)) (.cons _ _ _ _ (.int _ (.var 1)) (.cons _ _ _ _ (.int _ (.var 2)) (.cons _ _ _ _ (.int _ (.var 3)) .nil)))))) .nil)) facts_none ?_ W
  rw [word4_eq]
  simp only [word4T, T.gives, V.val, wordV]
  rfl
theorem word5_calls (nm op : ByteArray) (o f3 f7 a b c n : Int) (W : World) : Calls Try.prog 22 #[.agg #[.string nm, .string ⟨([83] : List UInt8).toArray⟩, .int .i64 o, .int .i64 f3, .int .i64 f7], .agg #[.string op, .int .i64 a, .int .i64 b, .int .i64 c, .int .i64 n]] W fun e W' => e = .returned (.int .i64 (wordV 5 nm o f3 f7 a b c n)) ∧ Below W.heap.size W W' := by
  refine contract (η := { i := (envR nm a b c n o f3 f7).i, s := fun j => if j = 1 then op else nm }) in_plain in_follows (noSum_ok _ _) (n := 60) (args := [.agg [.str (.var 2), .str (.lit [83]), .int .i64 (.var 4), .int .i64 (.var 5), .int .i64 (.var 6)], .agg [.str (.var 1), .int .i64 (.var 0), .int .i64 (.var 1), .int .i64 (.var 2), .int .i64 (.var 3)]]) (args' := [.agg #[.string nm, .string ⟨([83] : List UInt8).toArray⟩, .int .i64 o, .int .i64 f3, .int .i64 f7], .agg #[.string op, .int .i64 a, .int .i64 b, .int .i64 c, .int .i64 n]]) (.cons _ _ _ _ (.agg _ [.string nm, .string ⟨([83] : List UInt8).toArray⟩, .int .i64 o, .int .i64 f3, .int .i64 f7] (.cons _ _ _ _ (.str (.var 2)) (.cons _ _ _ _ (.str (.lit [83])) (.cons _ _ _ _ (.int _ (.var 4)) (.cons _ _ _ _ (.int _ (.var 5)) (.cons _ _ _ _ (.int _ (.var 6)) .nil)))))) (.cons _ _ _ _ (.agg _ [.string op, .int .i64 a, .int .i64 b, .int .i64 c, .int .i64 n] (.cons _ _ _ _ (.str (.var 1)) (.cons _ _ _ _ (.int _ (.var 0)) (.cons _ _ _ _ (.int _ (.var 1)) (.cons _ _ _ _ (.int _ (.var 2)) (.cons _ _ _ _ (.int _ (.var 3)) .nil)))))) .nil)) facts_none ?_ W
  rw [word5_eq]
  simp only [word5T, T.gives, V.val, wordV]
  rfl
theorem word6_calls (nm op : ByteArray) (o f3 f7 a b c n : Int) (W : World) : Calls Try.prog 22 #[.agg #[.string nm, .string ⟨([82] : List UInt8).toArray⟩, .int .i64 o, .int .i64 f3, .int .i64 f7], .agg #[.string op, .int .i64 a, .int .i64 b, .int .i64 c, .int .i64 n]] W fun e W' => e = .returned (.int .i64 (wordV 6 nm o f3 f7 a b c n)) ∧ Below W.heap.size W W' := by
  refine contract (η := { i := (envR nm a b c n o f3 f7).i, s := fun j => if j = 1 then op else nm }) in_plain in_follows (noSum_ok _ _) (n := 60) (args := [.agg [.str (.var 2), .str (.lit [82]), .int .i64 (.var 4), .int .i64 (.var 5), .int .i64 (.var 6)], .agg [.str (.var 1), .int .i64 (.var 0), .int .i64 (.var 1), .int .i64 (.var 2), .int .i64 (.var 3)]]) (args' := [.agg #[.string nm, .string ⟨([82] : List UInt8).toArray⟩, .int .i64 o, .int .i64 f3, .int .i64 f7], .agg #[.string op, .int .i64 a, .int .i64 b, .int .i64 c, .int .i64 n]]) (.cons _ _ _ _ (.agg _ [.string nm, .string ⟨([82] : List UInt8).toArray⟩, .int .i64 o, .int .i64 f3, .int .i64 f7] (.cons _ _ _ _ (.str (.var 2)) (.cons _ _ _ _ (.str (.lit [82])) (.cons _ _ _ _ (.int _ (.var 4)) (.cons _ _ _ _ (.int _ (.var 5)) (.cons _ _ _ _ (.int _ (.var 6)) .nil)))))) (.cons _ _ _ _ (.agg _ [.string op, .int .i64 a, .int .i64 b, .int .i64 c, .int .i64 n] (.cons _ _ _ _ (.str (.var 1)) (.cons _ _ _ _ (.int _ (.var 0)) (.cons _ _ _ _ (.int _ (.var 1)) (.cons _ _ _ _ (.int _ (.var 2)) (.cons _ _ _ _ (.int _ (.var 3)) .nil)))))) .nil)) facts_none ?_ W
  rw [word6_eq]
  simp only [word6T, T.gives, V.val, wordV]
  rfl
theorem word7_calls (nm op : ByteArray) (o f3 f7 a b c n : Int) (W : World) : Calls Try.prog 22 #[.agg #[.string nm, .string ⟨([69] : List UInt8).toArray⟩, .int .i64 o, .int .i64 f3, .int .i64 f7], .agg #[.string op, .int .i64 a, .int .i64 b, .int .i64 c, .int .i64 n]] W fun e W' => e = .returned (.int .i64 (wordV 7 nm o f3 f7 a b c n)) ∧ Below W.heap.size W W' := by
  refine contract (η := { i := (envR nm a b c n o f3 f7).i, s := fun j => if j = 1 then op else nm }) in_plain in_follows (noSum_ok _ _) (n := 60) (args := [.agg [.str (.var 2), .str (.lit [69]), .int .i64 (.var 4), .int .i64 (.var 5), .int .i64 (.var 6)], .agg [.str (.var 1), .int .i64 (.var 0), .int .i64 (.var 1), .int .i64 (.var 2), .int .i64 (.var 3)]]) (args' := [.agg #[.string nm, .string ⟨([69] : List UInt8).toArray⟩, .int .i64 o, .int .i64 f3, .int .i64 f7], .agg #[.string op, .int .i64 a, .int .i64 b, .int .i64 c, .int .i64 n]]) (.cons _ _ _ _ (.agg _ [.string nm, .string ⟨([69] : List UInt8).toArray⟩, .int .i64 o, .int .i64 f3, .int .i64 f7] (.cons _ _ _ _ (.str (.var 2)) (.cons _ _ _ _ (.str (.lit [69])) (.cons _ _ _ _ (.int _ (.var 4)) (.cons _ _ _ _ (.int _ (.var 5)) (.cons _ _ _ _ (.int _ (.var 6)) .nil)))))) (.cons _ _ _ _ (.agg _ [.string op, .int .i64 a, .int .i64 b, .int .i64 c, .int .i64 n] (.cons _ _ _ _ (.str (.var 1)) (.cons _ _ _ _ (.int _ (.var 0)) (.cons _ _ _ _ (.int _ (.var 1)) (.cons _ _ _ _ (.int _ (.var 2)) (.cons _ _ _ _ (.int _ (.var 3)) .nil)))))) .nil)) facts_none ?_ W
  rw [word7_eq]
  have q : (⟨([101, 98, 114, 101, 97, 107] : List UInt8).toArray⟩ : ByteArray).toList = [101, 98, 114, 101, 97, 107] := by simp
  simp only [word7T, T.gives, V.val, B.prop, S.den, E.den, wordV, q]
  exact ⟨fun h => by rw [if_pos (show nm.toList = _ from h)], fun h => by rw [if_neg (show ¬ nm.toList = _ from h)]⟩
theorem wordenc_0 {B a b c n : Int} (nm : ByteArray) (hC : 0 ≤ B ∧ B < 128) (h : okF 0 a b c n = true) : wordV 0 nm (B % 128) (B / 4096 % 8) (B / 33554432) a b c n = encW 0 B a b c n := by
  obtain ⟨hn, ha, hb, hc⟩ := (ok_0 a b c n).1 h
  subst hb
  subst hc
  rw [enc_0 hC ha]
  simp only [wordV, word0X, E.den, r0, r1, r2, r3, r4, r5, r6, tmod_mod4294967296, tdq, pcR_0, pcR_1, pcR_5, pcR_7, pcR_8, pcR_11, pcR_12, pcR_15, pcR_20, pcR_21, pcR_25, pcR_31]
  have g0 : 0 ≤ n % 4294967296 / 1 % 1048576 ∧ n % 4294967296 / 1 % 1048576 < 1048576 := by clear hC; omega
  have gx : n % 4294967296 / 1 % 1048576 = n := by clear hC; omega
  rw [gx] at g0 ⊢
  clear gx
  have q0 : 0 ≤ B % 128 ∧ B % 128 < 128 := by omega
  have q3 : 0 ≤ B / 4096 % 8 ∧ B / 4096 % 8 < 8 := by omega
  have q7 : 0 ≤ B / 33554432 ∧ B / 33554432 < 128 := by omega
  have z3 : B / 4096 % 8 = 0 := by omega
  have z0 : B % 128 = B := by omega
  rw [z3, z0]
  generalize B % 128 = o at *
  generalize B / 4096 % 8 = f3 at *
  generalize B / 33554432 = f7 at *
  simp (disch := omega) only [w64]
  omega
theorem wordenc_1 {B a b c n : Int} (nm : ByteArray) (hC : 0 ≤ B ∧ B < 128) (h : okF 1 a b c n = true) : wordV 1 nm (B % 128) (B / 4096 % 8) (B / 33554432) a b c n = encW 1 B a b c n := by
  obtain ⟨hn, ha, hb, hc⟩ := (ok_1 a b c n).1 h
  subst hb
  subst hc
  rw [enc_1 hC ha]
  simp only [wordV, word1X, E.den, r0, r1, r2, r3, r4, r5, r6, tmod_mod4294967296, tdq, pcR_0, pcR_1, pcR_5, pcR_7, pcR_8, pcR_11, pcR_12, pcR_15, pcR_20, pcR_21, pcR_25, pcR_31]
  have g0 : 0 ≤ n % 4294967296 / 2 % 1024 ∧ n % 4294967296 / 2 % 1024 < 1024 := by clear hC; omega
  have g1 : 0 ≤ n % 4294967296 / 2048 % 2 ∧ n % 4294967296 / 2048 % 2 < 2 := by clear hC; omega
  have g2 : 0 ≤ n % 4294967296 / 4096 % 256 ∧ n % 4294967296 / 4096 % 256 < 256 := by clear hC; omega
  have g3 : 0 ≤ n % 4294967296 / 1048576 % 2 ∧ n % 4294967296 / 1048576 % 2 < 2 := by clear hC; omega
  generalize n % 4294967296 / 2 % 1024 = x0 at *
  generalize n % 4294967296 / 2048 % 2 = x1 at *
  generalize n % 4294967296 / 4096 % 256 = x2 at *
  generalize n % 4294967296 / 1048576 % 2 = x3 at *
  have q0 : 0 ≤ B % 128 ∧ B % 128 < 128 := by omega
  have q3 : 0 ≤ B / 4096 % 8 ∧ B / 4096 % 8 < 8 := by omega
  have q7 : 0 ≤ B / 33554432 ∧ B / 33554432 < 128 := by omega
  have z3 : B / 4096 % 8 = 0 := by omega
  have z0 : B % 128 = B := by omega
  rw [z3, z0]
  generalize B % 128 = o at *
  generalize B / 4096 % 8 = f3 at *
  generalize B / 33554432 = f7 at *
  simp (disch := omega) only [w64]
  omega
theorem wordenc_2 {B a b c n : Int} (nm : ByteArray) (hC : 0 ≤ B ∧ B % 128 + B / 4096 % 8 * 4096 = B) (h : okF 2 a b c n = true) : wordV 2 nm (B % 128) (B / 4096 % 8) (B / 33554432) a b c n = encW 2 B a b c n := by
  obtain ⟨hn, ha, hb, hc⟩ := (ok_2 a b c n).1 h
  subst hc
  rw [enc_2 hC ha hb]
  simp only [wordV, word2X, E.den, r0, r1, r2, r3, r4, r5, r6, tmod_mod4294967296, tdq, pcR_0, pcR_1, pcR_5, pcR_7, pcR_8, pcR_11, pcR_12, pcR_15, pcR_20, pcR_21, pcR_25, pcR_31]
  have g0 : 0 ≤ n % 4294967296 / 1 % 4096 ∧ n % 4294967296 / 1 % 4096 < 4096 := by clear hC; omega
  generalize n % 4294967296 / 1 % 4096 = x0 at *
  have q0 : 0 ≤ B % 128 ∧ B % 128 < 128 := by omega
  have q3 : 0 ≤ B / 4096 % 8 ∧ B / 4096 % 8 < 8 := by omega
  have q7 : 0 ≤ B / 33554432 ∧ B / 33554432 < 128 := by omega
  generalize B % 128 = o at *
  generalize B / 4096 % 8 = f3 at *
  generalize B / 33554432 = f7 at *
  simp (disch := omega) only [w64]
  omega
theorem wordenc_3 {B a b c n : Int} (nm : ByteArray) (hC : 0 ≤ B ∧ B < 4294967296 ∧ B % 128 + B / 4096 % 8 * 4096 + B / 33554432 * 33554432 = B) (h : okF 3 a b c n = true) : wordV 3 nm (B % 128) (B / 4096 % 8) (B / 33554432) a b c n = encW 3 B a b c n := by
  obtain ⟨hn, ha, hb, hc⟩ := (ok_3 a b c n).1 h
  subst hc
  rw [enc_3 hC ha hb (by omega)]
  simp only [wordV, word3X, E.den, r0, r1, r2, r3, r4, r5, r6, tmod_mod4294967296, tdq, pcR_0, pcR_1, pcR_5, pcR_7, pcR_8, pcR_11, pcR_12, pcR_15, pcR_20, pcR_21, pcR_25, pcR_31]
  have g0 : 0 ≤ n % 4294967296 / 1 % 32 ∧ n % 4294967296 / 1 % 32 < 32 := by clear hC; omega
  have gx : n % 4294967296 / 1 % 32 = n := by clear hC; omega
  rw [gx] at g0 ⊢
  clear gx
  have q0 : 0 ≤ B % 128 ∧ B % 128 < 128 := by omega
  have q3 : 0 ≤ B / 4096 % 8 ∧ B / 4096 % 8 < 8 := by omega
  have q7 : 0 ≤ B / 33554432 ∧ B / 33554432 < 128 := by omega
  generalize B % 128 = o at *
  generalize B / 4096 % 8 = f3 at *
  generalize B / 33554432 = f7 at *
  simp (disch := omega) only [w64]
  omega
theorem wordenc_4 {B a b c n : Int} (nm : ByteArray) (hC : 0 ≤ B ∧ B % 128 + B / 4096 % 8 * 4096 = B) (h : okF 4 a b c n = true) : wordV 4 nm (B % 128) (B / 4096 % 8) (B / 33554432) a b c n = encW 4 B a b c n := by
  obtain ⟨hn, ha, hb, hc⟩ := (ok_4 a b c n).1 h
  subst ha
  rw [enc_4 hC hb hc]
  simp only [wordV, word4X, E.den, r0, r1, r2, r3, r4, r5, r6, tmod_mod4294967296, tdq, pcR_0, pcR_1, pcR_5, pcR_7, pcR_8, pcR_11, pcR_12, pcR_15, pcR_20, pcR_21, pcR_25, pcR_31]
  have g0 : 0 ≤ n % 4294967296 / 2 % 16 ∧ n % 4294967296 / 2 % 16 < 16 := by clear hC; omega
  have g1 : 0 ≤ n % 4294967296 / 32 % 64 ∧ n % 4294967296 / 32 % 64 < 64 := by clear hC; omega
  have g2 : 0 ≤ n % 4294967296 / 2048 % 2 ∧ n % 4294967296 / 2048 % 2 < 2 := by clear hC; omega
  have g3 : 0 ≤ n % 4294967296 / 4096 % 2 ∧ n % 4294967296 / 4096 % 2 < 2 := by clear hC; omega
  generalize n % 4294967296 / 2 % 16 = x0 at *
  generalize n % 4294967296 / 32 % 64 = x1 at *
  generalize n % 4294967296 / 2048 % 2 = x2 at *
  generalize n % 4294967296 / 4096 % 2 = x3 at *
  have q0 : 0 ≤ B % 128 ∧ B % 128 < 128 := by omega
  have q3 : 0 ≤ B / 4096 % 8 ∧ B / 4096 % 8 < 8 := by omega
  have q7 : 0 ≤ B / 33554432 ∧ B / 33554432 < 128 := by omega
  generalize B % 128 = o at *
  generalize B / 4096 % 8 = f3 at *
  generalize B / 33554432 = f7 at *
  simp (disch := omega) only [w64]
  omega
theorem wordenc_5 {B a b c n : Int} (nm : ByteArray) (hC : 0 ≤ B ∧ B % 128 + B / 4096 % 8 * 4096 = B) (h : okF 5 a b c n = true) : wordV 5 nm (B % 128) (B / 4096 % 8) (B / 33554432) a b c n = encW 5 B a b c n := by
  obtain ⟨hn, ha, hb, hc⟩ := (ok_5 a b c n).1 h
  subst ha
  rw [enc_5 hC hb hc]
  simp only [wordV, word5X, E.den, r0, r1, r2, r3, r4, r5, r6, tmod_mod4294967296, tdq, pcR_0, pcR_1, pcR_5, pcR_7, pcR_8, pcR_11, pcR_12, pcR_15, pcR_20, pcR_21, pcR_25, pcR_31]
  have g0 : 0 ≤ n % 4294967296 / 1 % 32 ∧ n % 4294967296 / 1 % 32 < 32 := by clear hC; omega
  have g1 : 0 ≤ n % 4294967296 / 32 % 128 ∧ n % 4294967296 / 32 % 128 < 128 := by clear hC; omega
  generalize n % 4294967296 / 1 % 32 = x0 at *
  generalize n % 4294967296 / 32 % 128 = x1 at *
  have q0 : 0 ≤ B % 128 ∧ B % 128 < 128 := by omega
  have q3 : 0 ≤ B / 4096 % 8 ∧ B / 4096 % 8 < 8 := by omega
  have q7 : 0 ≤ B / 33554432 ∧ B / 33554432 < 128 := by omega
  generalize B % 128 = o at *
  generalize B / 4096 % 8 = f3 at *
  generalize B / 33554432 = f7 at *
  simp (disch := omega) only [w64]
  omega
theorem wordenc_6 {B a b c n : Int} (nm : ByteArray) (hC : 0 ≤ B ∧ B < 4294967296 ∧ B % 128 + B / 4096 % 8 * 4096 + B / 33554432 * 33554432 = B) (h : okF 6 a b c n = true) : wordV 6 nm (B % 128) (B / 4096 % 8) (B / 33554432) a b c n = encW 6 B a b c n := by
  obtain ⟨hn, ha, hb, hc⟩ := (ok_6 a b c n).1 h
  rw [enc_6 hC ha hb hc]
  simp only [wordV, word6X, E.den, r0, r1, r2, r3, r4, r5, r6, tmod_mod4294967296, tdq, pcR_0, pcR_1, pcR_5, pcR_7, pcR_8, pcR_11, pcR_12, pcR_15, pcR_20, pcR_21, pcR_25, pcR_31]
  have q0 : 0 ≤ B % 128 ∧ B % 128 < 128 := by omega
  have q3 : 0 ≤ B / 4096 % 8 ∧ B / 4096 % 8 < 8 := by omega
  have q7 : 0 ≤ B / 33554432 ∧ B / 33554432 < 128 := by omega
  generalize B % 128 = o at *
  generalize B / 4096 % 8 = f3 at *
  generalize B / 33554432 = f7 at *
  simp (disch := omega) only [w64]
  omega
def wordI (r : Rw) (a b c n : Int) : Int := wordV r.form ⟨r.name.toArray⟩ (r.bits % 128) (r.bits / 4096 % 8) (r.bits / 33554432) a b c n
theorem names_E : (rowsL.all fun r => if r.form = 7 then Nat.beq r.bits.toNat (if r.name = [101, 98, 114, 101, 97, 107] then 1048691 else 115) && decide (0 ≤ r.bits) else true) = true := by kernel_rfl
theorem wordI_enc {r : Rw} (hr : r ∈ rowsL) {a b c n : Int} (h : okF r.form a b c n = true) : wordI r a b c n = encW r.form r.bits a b c n := by
  have hC := rowC_of hr
  have h8 := forms_ok r hr
  have hE := List.all_eq_true.1 names_E r hr
  obtain ⟨nm, f, B⟩ := r
  simp only at h8 h hC hE
  unfold wordI
  simp only
  obtain rfl | rfl | rfl | rfl | rfl | rfl | rfl | rfl : f = 0 ∨ f = 1 ∨ f = 2 ∨ f = 3 ∨ f = 4 ∨ f = 5 ∨ f = 6 ∨ f = 7 := by omega
  all_goals simp only [rowC, Bool.and_eq_true, Bool.or_eq_true, decide_eq_true_eq] at hC
  · exact wordenc_0 _ hC h
  · exact wordenc_1 _ hC h
  · exact wordenc_2 _ hC h
  · exact wordenc_3 _ hC h
  · exact wordenc_4 _ hC h
  · exact wordenc_5 _ hC h
  · exact wordenc_6 _ hC h
  · obtain ⟨hn, ha, hb, hc⟩ := (ok_7 a b c n).1 h
    subst ha hb hc
    rw [enc_7 hC]
    have q : (⟨nm.toArray⟩ : ByteArray).toList = nm := by simp
    simp only [wordV, q]
    rw [if_pos rfl] at hE
    simp only [Bool.and_eq_true, decide_eq_true_eq] at hE
    have e := Nat.eq_of_beq_eq_true hE.1
    split
    · rename_i hnm; rw [if_pos hnm] at e; omega
    · rename_i hnm; rw [if_neg hnm] at e; omega
end Go.Proofs.Ytloihfdiabbcpaa.Sx
