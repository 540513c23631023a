/- Instructions: what Encode and Decode answer, as plain functions and as trees. -/
import Derived.Test.YtloihfdiabbcpaaProg
import Derived.Test.YtloihfdiabbcpaaSxSum
namespace Go.Proofs.Ytloihfdiabbcpaa.Sx
open Go Go.RowKit
set_option linter.unusedVariables false
set_option linter.unusedSimpArgs false
set_option maxRecDepth 100000
def rowsV : V := (.agg [(.str (.lit [108, 117, 105])), (.int .i64 (.lit 0)), (.int .u32 (.lit 55)), (.str (.lit [97, 117, 105, 112, 99])), (.int .i64 (.lit 0)), (.int .u32 (.lit 23)), (.str (.lit [106, 97, 108])), (.int .i64 (.lit 1)), (.int .u32 (.lit 111)), (.str (.lit [106, 97, 108, 114])), (.int .i64 (.lit 2)), (.int .u32 (.lit 103)), (.str (.lit [108, 98])), (.int .i64 (.lit 2)), (.int .u32 (.lit 3)), (.str (.lit [108, 104])), (.int .i64 (.lit 2)), (.int .u32 (.lit 4099)), (.str (.lit [108, 119])), (.int .i64 (.lit 2)), (.int .u32 (.lit 8195)), (.str (.lit [108, 98, 117])), (.int .i64 (.lit 2)), (.int .u32 (.lit 16387)), (.str (.lit [108, 104, 117])), (.int .i64 (.lit 2)), (.int .u32 (.lit 20483)), (.str (.lit [97, 100, 100, 105])), (.int .i64 (.lit 2)), (.int .u32 (.lit 19)), (.str (.lit [115, 108, 116, 105])), (.int .i64 (.lit 2)), (.int .u32 (.lit 8211)), (.str (.lit [115, 108, 116, 105, 117])), (.int .i64 (.lit 2)), (.int .u32 (.lit 12307)), (.str (.lit [120, 111, 114, 105])), (.int .i64 (.lit 2)), (.int .u32 (.lit 16403)), (.str (.lit [111, 114, 105])), (.int .i64 (.lit 2)), (.int .u32 (.lit 24595)), (.str (.lit [97, 110, 100, 105])), (.int .i64 (.lit 2)), (.int .u32 (.lit 28691)), (.str (.lit [115, 108, 108, 105])), (.int .i64 (.lit 3)), (.int .u32 (.lit 4115)), (.str (.lit [115, 114, 108, 105])), (.int .i64 (.lit 3)), (.int .u32 (.lit 20499)), (.str (.lit [115, 114, 97, 105])), (.int .i64 (.lit 3)), (.int .u32 (.lit 1073762323)), (.str (.lit [98, 101, 113])), (.int .i64 (.lit 4)), (.int .u32 (.lit 99)), (.str (.lit [98, 110, 101])), (.int .i64 (.lit 4)), (.int .u32 (.lit 4195)), (.str (.lit [98, 108, 116])), (.int .i64 (.lit 4)), (.int .u32 (.lit 16483)), (.str (.lit [98, 103, 101])), (.int .i64 (.lit 4)), (.int .u32 (.lit 20579)), (.str (.lit [98, 108, 116, 117])), (.int .i64 (.lit 4)), (.int .u32 (.lit 24675)), (.str (.lit [98, 103, 101, 117])), (.int .i64 (.lit 4)), (.int .u32 (.lit 28771)), (.str (.lit [115, 98])), (.int .i64 (.lit 5)), (.int .u32 (.lit 35)), (.str (.lit [115, 104])), (.int .i64 (.lit 5)), (.int .u32 (.lit 4131)), (.str (.lit [115, 119])), (.int .i64 (.lit 5)), (.int .u32 (.lit 8227)), (.str (.lit [97, 100, 100])), (.int .i64 (.lit 6)), (.int .u32 (.lit 51)), (.str (.lit [115, 108, 108])), (.int .i64 (.lit 6)), (.int .u32 (.lit 4147)), (.str (.lit [115, 108, 116])), (.int .i64 (.lit 6)), (.int .u32 (.lit 8243)), (.str (.lit [115, 108, 116, 117])), (.int .i64 (.lit 6)), (.int .u32 (.lit 12339)), (.str (.lit [120, 111, 114])), (.int .i64 (.lit 6)), (.int .u32 (.lit 16435)), (.str (.lit [115, 114, 108])), (.int .i64 (.lit 6)), (.int .u32 (.lit 20531)), (.str (.lit [111, 114])), (.int .i64 (.lit 6)), (.int .u32 (.lit 24627)), (.str (.lit [97, 110, 100])), (.int .i64 (.lit 6)), (.int .u32 (.lit 28723)), (.str (.lit [115, 117, 98])), (.int .i64 (.lit 6)), (.int .u32 (.lit 1073741875)), (.str (.lit [115, 114, 97])), (.int .i64 (.lit 6)), (.int .u32 (.lit 1073762355)), (.str (.lit [109, 117, 108])), (.int .i64 (.lit 6)), (.int .u32 (.lit 33554483)), (.str (.lit [109, 117, 108, 104])), (.int .i64 (.lit 6)), (.int .u32 (.lit 33558579)), (.str (.lit [109, 117, 108, 104, 115, 117])), (.int .i64 (.lit 6)), (.int .u32 (.lit 33562675)), (.str (.lit [109, 117, 108, 104, 117])), (.int .i64 (.lit 6)), (.int .u32 (.lit 33566771)), (.str (.lit [100, 105, 118])), (.int .i64 (.lit 6)), (.int .u32 (.lit 33570867)), (.str (.lit [100, 105, 118, 117])), (.int .i64 (.lit 6)), (.int .u32 (.lit 33574963)), (.str (.lit [114, 101, 109])), (.int .i64 (.lit 6)), (.int .u32 (.lit 33579059)), (.str (.lit [114, 101, 109, 117])), (.int .i64 (.lit 6)), (.int .u32 (.lit 33583155)), (.str (.lit [101, 99, 97, 108, 108])), (.int .i64 (.lit 7)), (.int .u32 (.lit 115)), (.str (.lit [101, 98, 114, 101, 97, 107])), (.int .i64 (.lit 7)), (.int .u32 (.lit 1048691))])
/-- A row: its name, its form, its fixed bits. -/
structure Rw where
  name : List UInt8
  form : Nat
  bits : Int
def hasD (f : Nat) : Bool := match f with | 0 => true | 1 => true | 2 => true | 3 => true | 6 => true | _ => false
def has1 (f : Nat) : Bool := match f with | 2 => true | 3 => true | 4 => true | 5 => true | 6 => true | _ => false
def has2 (f : Nat) : Bool := match f with | 4 => true | 5 => true | 6 => true | _ => false
def shB (f : Nat) : Int := match f with | 0 => 20 | 1 => 21 | 2 => 12 | 3 => 5 | 4 => 13 | 5 => 12 | _ => 0
def shS (f : Nat) : Bool := match f with | 1 => true | 2 => true | 4 => true | 5 => true | _ => false
def shE (f : Nat) : Bool := match f with | 1 => true | 4 => true | _ => false
def b01 (b : Bool) : Int := if b then 1 else 0
/-- Where a form's number stands: from, mask, place. -/
def pcs (f : Nat) : List (Int × Int × Int) := match f with
  | 0 => [(0, 1048575, 12)]
  | 1 => [(1, 1023, 21), (11, 1, 20), (12, 255, 12), (20, 1, 31)]
  | 2 => [(0, 4095, 20)]
  | 3 => [(0, 31, 20)]
  | 4 => [(1, 15, 8), (5, 63, 25), (11, 1, 7), (12, 1, 31)]
  | 5 => [(0, 31, 7), (5, 127, 25)]
  | _ => []
def mask (f : Nat) : Int := match f with | 0 => 127 | 1 => 127 | 2 => 28799 | 3 => 4261441663 | 4 => 28799 | 5 => 28799 | 6 => 4261441663 | _ => 4294967295
def least (f : Nat) : Int := match f with | 1 => -1048576 | 2 => -2048 | 4 => -4096 | 5 => -2048 | _ => 0
def most (f : Nat) : Int := match f with | 0 => 1048575 | 1 => 1048575 | 2 => 2047 | 3 => 31 | 4 => 4095 | 5 => 2047 | _ => 0
/-- May a form have a number? -/
def fitsF (f : Nat) (n : Int) : Bool := decide (least f ≤ n) && (decide (n ≤ most f) && (!shE f || decide (n.tmod 2 = 0)))
def regF (may : Bool) (k : Int) : Bool := decide (0 ≤ k) && (decide (k < 32) && (may || decide (k = 0)))
def shL (p : Int) (x : Int) : Int := IntKind.u32.wrap (x * 2 ^ shN .u32 p)
def regW (p k : Int) : Int := shL p (IntKind.u32.wrap (bitsI .and .i64 k 31))
def pcW (n : Int) (p : Int × Int × Int) : Int := shL p.2.2 (bitsI .and .u32 ((IntKind.u32.wrap n).fdiv (2 ^ shN .u32 p.1)) p.2.1)
def orW (a b : Int) : Int := bitsI .or .u32 a b
/-- A word. -/
def encW (f : Nat) (bits a b c n : Int) : Int := (pcs f).foldl (fun w p => orW w (pcW n p)) (orW (orW (orW bits (regW 7 a)) (regW 15 b)) (regW 20 c))
def okF (f : Nat) (a b c n : Int) : Bool := fitsF f n && (regF (hasD f) a && (regF (has1 f) b && regF (has2 f) c))
def rowOf : List Rw → List UInt8 → Nat
  | [], _ => 0
  | r :: l, s => if s = r.name then 0 else rowOf l s + 1
/-- What Encode answers, by the row's number. -/
def encI (l : List Rw) (k : Nat) (a b c n : Int) : Int := match l[k]? with
  | some r => if okF r.form a b c n then encW r.form r.bits a b c n else 0
  | none => 0
def encB (l : List Rw) (k : Nat) (a b c n : Int) : Bool := match l[k]? with
  | some r => okF r.form a b c n
  | none => false
/-! ### The same as terms -/
def orE (a b : E) : E := .bits .or .u32 a b
def regE (p : Int) (k : E) : E := .shl .u32 (.wrap .u32 (.bits .and .i64 k (.lit 31))) (.lit p)
def pcE (n : E) (p : Int × Int × Int) : E := .shl .u32 (.bits .and .u32 (.shr .u32 (.wrap .u32 n) (.lit p.1)) (.lit p.2.1)) (.lit p.2.2)
def encE (f : Nat) (bits : Int) (a b c n : E) : E := (pcs f).foldl (fun w p => orE w (pcE n p)) (orE (orE (orE (.lit bits) (regE 7 a)) (regE 15 b)) (regE 20 c))
theorem encE_den (η : Env) (f : Nat) (bits : Int) (a b c n : E) : (encE f bits a b c n).den η = encW f bits (a.den η) (b.den η) (c.den η) (n.den η) := by
  unfold encE encW
  have h : ∀ (l : List (Int × Int × Int)) (w : E) (x : Int), w.den η = x → (l.foldl (fun w p => orE w (pcE n p)) w).den η = l.foldl (fun w p => orW w (pcW (n.den η) p)) x := by
    intro l
    induction l with
    | nil => intro w x h; exact h
    | cons p l ih => intro w x h; exact ih _ _ (by simp only [orE, E.den, h]; rfl)
  exact h _ _ _ rfl
def badT : T V := .ret (.tuple [.int .u32 (.lit 0), .bool (.lit false)])
def regB (may : Bool) (k : E) : B := .fn (if may then 21 else 20) k (.lit 0) (.lit 0)
def encLeaf (r : Rw) : T V := .node (.fn5 10 (.lit (shB r.form)) (.lit (b01 (shS r.form))) (.lit (b01 (shE r.form))) (.var 3) (.lit 0))
  (.node (regB (hasD r.form) (.var 0)) (.node (regB (has1 r.form) (.var 1)) (.node (regB (has2 r.form) (.var 2)) (.ret (.tuple [.int .u32 (encE r.form r.bits (.var 0) (.var 1) (.var 2) (.var 3)), .bool (.lit true)])) badT) badT) badT) badT
def encT : List Rw → T V
  | [] => badT
  | r :: l => .node (.seq (.lit r.name) (.var 0)) (encLeaf r) (encT l)
def fldE (may : Bool) (p : Int) : V := .int .i64 (if may then .bits .and .u32 (.shr .u32 (.var 0) (.lit p)) (.lit 31) else .lit 0)
def decLeaf (r : Rw) : T V := .ret (.tuple [.agg [.str (.lit r.name), fldE (hasD r.form) 7, fldE (has1 r.form) 15, fldE (has2 r.form) 20, .int .i64 (.fn 30 (.lit r.form) (.var 0) (.lit 0))], .int .i64 (.lit 0)])
def decT : List Rw → T V
  | [] => .ret (.tuple [.agg [.str (.lit []), .int .i64 (.lit 0), .int .i64 (.lit 0), .int .i64 (.lit 0), .int .i64 (.lit 0)], .int .i64 (.lit 70)])
  | r :: l => .node (.cmp .neq (.bits .and .u32 (.var 0) (.lit (mask r.form))) (.lit r.bits)) (decT l) (decLeaf r)
/-! ### The contracts that they need -/
def rowsG : List V → Option V
  | [] => some rowsV
  | _ => none
def regG : List V → Option V
  | [.int .i64 k, .bool (.lit b), .int .u64 (.lit p)] => if 0 ≤ p then some (.tuple [.int .u32 (regE p k), .bool (regB b k)]) else none
  | _ => none
def isShape (b : Int) (s e : Bool) : Nat := if b = 20 ∧ s = false ∧ e = false then 0 else if b = 21 ∧ s = true ∧ e = true then 1 else if b = 12 ∧ s = true ∧ e = false then 2 else if b = 5 ∧ s = false ∧ e = false then 3 else if b = 13 ∧ s = true ∧ e = true then 4 else if b = 0 ∧ s = false ∧ e = false then 6 else 9
def fitsG : List V → Option V
  | [.agg [.int .u64 (.lit b), .bool (.lit s), .bool (.lit e)], .int .i64 n] => if isShape b s e = 9 then none else some (.bool (.fn5 10 (.lit b) (.lit (b01 s)) (.lit (b01 e)) n (.lit 0)))
  | _ => none
def numG : List V → Option V
  | [.int .i64 (.lit f), .int .u32 w] => if 0 ≤ f ∧ f < 8 then some (.int .i64 (.fn 30 (.lit f) w (.lit 0))) else none
  | _ => none
def sumA : Summary := (((Summary.put noSum 14 rowsG).put 26 regG).put 25 fitsG).put 18 numG
def rowsL : List Rw := [⟨[108, 117, 105], 0, 55⟩, ⟨[97, 117, 105, 112, 99], 0, 23⟩, ⟨[106, 97, 108], 1, 111⟩, ⟨[106, 97, 108, 114], 2, 103⟩, ⟨[108, 98], 2, 3⟩, ⟨[108, 104], 2, 4099⟩, ⟨[108, 119], 2, 8195⟩, ⟨[108, 98, 117], 2, 16387⟩, ⟨[108, 104, 117], 2, 20483⟩, ⟨[97, 100, 100, 105], 2, 19⟩, ⟨[115, 108, 116, 105], 2, 8211⟩, ⟨[115, 108, 116, 105, 117], 2, 12307⟩, ⟨[120, 111, 114, 105], 2, 16403⟩, ⟨[111, 114, 105], 2, 24595⟩, ⟨[97, 110, 100, 105], 2, 28691⟩, ⟨[115, 108, 108, 105], 3, 4115⟩, ⟨[115, 114, 108, 105], 3, 20499⟩, ⟨[115, 114, 97, 105], 3, 1073762323⟩, ⟨[98, 101, 113], 4, 99⟩, ⟨[98, 110, 101], 4, 4195⟩, ⟨[98, 108, 116], 4, 16483⟩, ⟨[98, 103, 101], 4, 20579⟩, ⟨[98, 108, 116, 117], 4, 24675⟩, ⟨[98, 103, 101, 117], 4, 28771⟩, ⟨[115, 98], 5, 35⟩, ⟨[115, 104], 5, 4131⟩, ⟨[115, 119], 5, 8227⟩, ⟨[97, 100, 100], 6, 51⟩, ⟨[115, 108, 108], 6, 4147⟩, ⟨[115, 108, 116], 6, 8243⟩, ⟨[115, 108, 116, 117], 6, 12339⟩, ⟨[120, 111, 114], 6, 16435⟩, ⟨[115, 114, 108], 6, 20531⟩, ⟨[111, 114], 6, 24627⟩, ⟨[97, 110, 100], 6, 28723⟩, ⟨[115, 117, 98], 6, 1073741875⟩, ⟨[115, 114, 97], 6, 1073762355⟩, ⟨[109, 117, 108], 6, 33554483⟩, ⟨[109, 117, 108, 104], 6, 33558579⟩, ⟨[109, 117, 108, 104, 115, 117], 6, 33562675⟩, ⟨[109, 117, 108, 104, 117], 6, 33566771⟩, ⟨[100, 105, 118], 6, 33570867⟩, ⟨[100, 105, 118, 117], 6, 33574963⟩, ⟨[114, 101, 109], 6, 33579059⟩, ⟨[114, 101, 109, 117], 6, 33583155⟩, ⟨[101, 99, 97, 108, 108], 7, 115⟩, ⟨[101, 98, 114, 101, 97, 107], 7, 1048691⟩]
theorem enc_eq : callTop Try.prog sumA 300 12 [.agg [.str (.var 0), .int .i64 (.var 0), .int .i64 (.var 1), .int .i64 (.var 2), .int .i64 (.var 3)]] [] = encT rowsL := by kernel_rfl
theorem dec_eq : callTop Try.prog sumA 300 9 [.int .u32 (.var 0)] [] = decT rowsL := by kernel_rfl
end Go.Proofs.Ytloihfdiabbcpaa.Sx
