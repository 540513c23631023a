/-
  No cell of these rows narrows 'for every input' (looked for: loops, veiled, ifaces, maps, wideKeys, modest, calm, conditions, laid).
  DERIVED. THE GIVEN ROWS OF THIS SEAT. 4 by the template 'for every input the law returns true; each argument reads behind the call as it read before'; 0 by the template 'total and deterministic' (their statements: YtbobnbndbgpanaaGreatTotals.lean).
  GIVEN WITH THE SEED: the statements are not yours to turn. If you find one false, say at which input.
  Laid BY PROGRAM, IN A SANDBOX (cutbox-rows.mjs): the forced cells as the released guide's own fill.sh prints them over the translation 46e65f7be61d045e… (all of the seat's roots in one cut). By AI agents, Wed Nov 11 2026. No macro, syntax, notation, axiom, sorry.
-/
import Derived.Test.YtbobnbndbgpanaaGreatChecked
import GoSem.Claim
import GoSem.ClaimJoined
import GoSem.ClaimMapViews
import Derived.JoinedTies
import Derived.KernelRfl
namespace Go.Proofs.YtbobnbndbgpanaaGreat
/- THE CELL 'sum', in the pinned program and in every row, IS THE sha256 OF THE DUMP (.gsa) THAT YtbobnbndbgpanaaGreatProg.lean LOADS. Nothing in Lean hashes anything: it is a label: what it is worth is what the hold of that sum in a sandbox is worth. -/
noncomputable def Tryz.pinned : Pinned := { name := "ytbobnbndbgpanaagreat", sum := "46e65f7be61d045e5fcff531da236dc20393a7e83df6844d9e260921f5202d8d", checked := Tryz.checked }
namespace Rows
def none {H : Type} : Left H := { results := [], args := [] }

/-- 'ferrulelaw08.BorrowTwice': WHATEVER THE INPUT: true; the input reads as it did. -/
def borrowTwiceSpec : ChangeSpec := { name := "borrowTwice", fn := fun _ => fun
  | [d1, d2] => { results := [.lit (.bool true)], args := [d1, d2] }
  | _ => none }
def borrowTwiceRow : OpenClaim := { program := "ytbobnbndbgpanaagreat", sum := "46e65f7be61d045e5fcff531da236dc20393a7e83df6844d9e260921f5202d8d", func := "ferrule/ferrulelaw08.BorrowTwice", spec := "borrowTwice", unfollowed := true, recurses := true, apart := false }
def BorrowTwiceSaid : Prop := borrowTwiceRow.holds Tryz.pinned (OpenSpec.ofChange borrowTwiceSpec)

/-- ITS FALSE NEIGHBOUR: 'it returns false'. Refute it at one input. -/
def borrowTwiceWrong : ChangeSpec := { name := "borrowTwice", fn := fun _ => fun
  | [d1, d2] => { results := [.lit (.bool false)], args := [d1, d2] }
  | _ => none }
def BorrowTwiceWrongFalsely : Prop := borrowTwiceRow.holds Tryz.pinned (OpenSpec.ofChange borrowTwiceWrong)

/-- 'ferrulelaw08.BorrowApart': WHATEVER THE INPUT: true; the input reads as it did. -/
def borrowApartSpec : ChangeSpec := { name := "borrowApart", fn := fun _ => fun
  | [d1, d2, d3] => { results := [.lit (.bool true)], args := [d1, d2, d3] }
  | _ => none }
def borrowApartRow : OpenClaim := { program := "ytbobnbndbgpanaagreat", sum := "46e65f7be61d045e5fcff531da236dc20393a7e83df6844d9e260921f5202d8d", func := "ferrule/ferrulelaw08.BorrowApart", spec := "borrowApart", unfollowed := true, recurses := true, apart := false }
def BorrowApartSaid : Prop := borrowApartRow.holds Tryz.pinned (OpenSpec.ofChange borrowApartSpec)

/-- ITS FALSE NEIGHBOUR: 'it returns false'. Refute it at one input. -/
def borrowApartWrong : ChangeSpec := { name := "borrowApart", fn := fun _ => fun
  | [d1, d2, d3] => { results := [.lit (.bool false)], args := [d1, d2, d3] }
  | _ => none }
def BorrowApartWrongFalsely : Prop := borrowApartRow.holds Tryz.pinned (OpenSpec.ofChange borrowApartWrong)

/-- 'ferrulelaw08.BorrowCopies': WHATEVER THE INPUT: true; the input reads as it did. -/
def borrowCopiesSpec : ChangeSpec := { name := "borrowCopies", fn := fun _ => fun
  | [d1, d2] => { results := [.lit (.bool true)], args := [d1, d2] }
  | _ => none }
def borrowCopiesRow : OpenClaim := { program := "ytbobnbndbgpanaagreat", sum := "46e65f7be61d045e5fcff531da236dc20393a7e83df6844d9e260921f5202d8d", func := "ferrule/ferrulelaw08.BorrowCopies", spec := "borrowCopies", unfollowed := true, recurses := true, apart := false }
def BorrowCopiesSaid : Prop := borrowCopiesRow.holds Tryz.pinned (OpenSpec.ofChange borrowCopiesSpec)

/-- ITS FALSE NEIGHBOUR: 'it returns false'. Refute it at one input. -/
def borrowCopiesWrong : ChangeSpec := { name := "borrowCopies", fn := fun _ => fun
  | [d1, d2] => { results := [.lit (.bool false)], args := [d1, d2] }
  | _ => none }
def BorrowCopiesWrongFalsely : Prop := borrowCopiesRow.holds Tryz.pinned (OpenSpec.ofChange borrowCopiesWrong)

/-- 'ferrulelaw08.BorrowParts': WHATEVER THE INPUT: true; the input reads as it did. -/
def borrowPartsSpec : ChangeSpec := { name := "borrowParts", fn := fun _ => fun
  | [d] => { results := [.lit (.bool true)], args := [d] }
  | _ => none }
def borrowPartsRow : OpenClaim := { program := "ytbobnbndbgpanaagreat", sum := "46e65f7be61d045e5fcff531da236dc20393a7e83df6844d9e260921f5202d8d", func := "ferrule/ferrulelaw08.BorrowParts", spec := "borrowParts", unfollowed := true, recurses := true, apart := false }
def BorrowPartsSaid : Prop := borrowPartsRow.holds Tryz.pinned (OpenSpec.ofChange borrowPartsSpec)

/-- ITS FALSE NEIGHBOUR: 'it returns false'. Refute it at one input. -/
def borrowPartsWrong : ChangeSpec := { name := "borrowParts", fn := fun _ => fun
  | [d] => { results := [.lit (.bool false)], args := [d] }
  | _ => none }
def BorrowPartsWrongFalsely : Prop := borrowPartsRow.holds Tryz.pinned (OpenSpec.ofChange borrowPartsWrong)

/- THE SECOND FORM. 'bulk': how many values and letters a reading holds, each counted each time it is reached (what is shared counts as often as it is met; a slice's spare places count too). A statement '..UptoSaid' is the law's where the arguments, and the package variables that the reading takes, are together of bulk at most 1048576: NARROWER than '..Said'. Prove '..Said' where nothing that the law and all that it calls make is longer than what came in: it says more and counts as full. Else prove '..UptoSaid'. A law counts once. -/
mutual
def uptoBulk {H : Type} : DataW H → Nat
  | .lit (.string bytes) => bytes.length + 1
  | .lit _ => 1
  | .nil => 1
  | .ptr d => uptoBulk d + 1
  | .slice elems spare => uptoBulkAll elems + uptoBulkAll spare + 1
  | .agg parts => uptoBulkAll parts + 1
  | .iface _ d => uptoBulk d + 1
  | .map entries => uptoBulkEntries entries + 1
  | .held _ => 1
def uptoBulkAll {H : Type} : List (DataW H) → Nat
  | [] => 0
  | d :: r => uptoBulk d + uptoBulkAll r
def uptoBulkEntries {H : Type} : List (Lit × DataW H) → Nat
  | [] => 0
  | x :: r => uptoBulkEntry x + uptoBulkEntries r
def uptoBulkEntry {H : Type} : Lit × DataW H → Nat
  | (.string bytes, d) => bytes.length + uptoBulk d + 1
  | (_, d) => uptoBulk d + 1
 end
def uptoSmall : (H : Type) → List (DataW H) → Bool := fun _ ds => decide (uptoBulkAll ds ≤ 1048576)
def OpenSpec.upto (s : _root_.Go.ChangeSpec) : _root_.Go.OpenSpec := { _root_.Go.OpenSpec.ofChange s with cond := some uptoSmall }

/-- 'ferrulelaw08.BorrowTwice', WHERE WHAT IT READS IS OF BULK AT MOST 1048576: true; the input reads as it did. -/
def borrowTwiceUptoRow : OpenClaim := { program := "ytbobnbndbgpanaagreat", sum := "46e65f7be61d045e5fcff531da236dc20393a7e83df6844d9e260921f5202d8d", func := "ferrule/ferrulelaw08.BorrowTwice", spec := "borrowTwice", unfollowed := true, recurses := true, apart := false, narrowed := true }
def BorrowTwiceUptoSaid : Prop := borrowTwiceUptoRow.holds Tryz.pinned (OpenSpec.upto borrowTwiceSpec)

/-- 'ferrulelaw08.BorrowApart', WHERE WHAT IT READS IS OF BULK AT MOST 1048576: true; the input reads as it did. -/
def borrowApartUptoRow : OpenClaim := { program := "ytbobnbndbgpanaagreat", sum := "46e65f7be61d045e5fcff531da236dc20393a7e83df6844d9e260921f5202d8d", func := "ferrule/ferrulelaw08.BorrowApart", spec := "borrowApart", unfollowed := true, recurses := true, apart := false, narrowed := true }
def BorrowApartUptoSaid : Prop := borrowApartUptoRow.holds Tryz.pinned (OpenSpec.upto borrowApartSpec)

/-- 'ferrulelaw08.BorrowCopies', WHERE WHAT IT READS IS OF BULK AT MOST 1048576: true; the input reads as it did. -/
def borrowCopiesUptoRow : OpenClaim := { program := "ytbobnbndbgpanaagreat", sum := "46e65f7be61d045e5fcff531da236dc20393a7e83df6844d9e260921f5202d8d", func := "ferrule/ferrulelaw08.BorrowCopies", spec := "borrowCopies", unfollowed := true, recurses := true, apart := false, narrowed := true }
def BorrowCopiesUptoSaid : Prop := borrowCopiesUptoRow.holds Tryz.pinned (OpenSpec.upto borrowCopiesSpec)

/-- 'ferrulelaw08.BorrowParts', WHERE WHAT IT READS IS OF BULK AT MOST 1048576: true; the input reads as it did. -/
def borrowPartsUptoRow : OpenClaim := { program := "ytbobnbndbgpanaagreat", sum := "46e65f7be61d045e5fcff531da236dc20393a7e83df6844d9e260921f5202d8d", func := "ferrule/ferrulelaw08.BorrowParts", spec := "borrowParts", unfollowed := true, recurses := true, apart := false, narrowed := true }
def BorrowPartsUptoSaid : Prop := borrowPartsUptoRow.holds Tryz.pinned (OpenSpec.upto borrowPartsSpec)

end Rows
end Go.Proofs.YtbobnbndbgpanaaGreat
