/-
  NARROWER THAN 'FOR EVERY INPUT', by the rows' own cells (each row's printed sentence says how): TypesAdd: loops · TypesTell: loops.
  DERIVED. THE GIVEN ROWS OF THIS SEAT. 4 by the template 'for every input the law returns true; each argument reads behind the call as it read before'; 0 by the template 'total and deterministic' (their statements: YtioediibbgklcaaTotals.lean).
  GIVEN WITH THE SEED: the statements are not yours to turn. If you find one false, say at which input.
  Laid BY PROGRAM, IN A SANDBOX (cutbox-rows.mjs): the forced cells as the released guide's own fill.sh prints them over the translation 00a7fad9a23d7fcb… (all of the seat's roots in one cut). By AI agents, Wed Nov 11 2026. No macro, syntax, notation, axiom, sorry.
-/
import Derived.Test.YtioediibbgklcaaChecked
import GoSem.Claim
import GoSem.ClaimJoined
import GoSem.ClaimMapViews
import Derived.JoinedTies
import Derived.KernelRfl
namespace Go.Proofs.Ytioediibbgklcaa
/- THE CELL 'sum', in the pinned program and in every row, IS THE sha256 OF THE DUMP (.gsa) THAT YtioediibbgklcaaProg.lean LOADS. Nothing in Lean hashes anything: it is a label: what it is worth is what the hold of that sum in a sandbox is worth. -/
noncomputable def Try.pinned : Pinned := { name := "ytioediibbgklcaa", sum := "00a7fad9a23d7fcb3d53edd8c3a36976c01c82f7dac490b6e1cd1b3d81a008f8", checked := Try.checked }
namespace Rows
def none {H : Type} : Left H := { results := [], args := [] }

/-- 'ferrulelaw05.TypesRound': WHATEVER THE INPUT: true; the input reads as it did. -/
def typesRoundSpec : ChangeSpec := { name := "typesRound", fn := fun _ => fun
  | [d1, d2] => { results := [.lit (.bool true)], args := [d1, d2] }
  | _ => none }
def typesRoundRow : OpenClaim := { program := "ytioediibbgklcaa", sum := "00a7fad9a23d7fcb3d53edd8c3a36976c01c82f7dac490b6e1cd1b3d81a008f8", func := "ferrule/ferrulelaw05.TypesRound", spec := "typesRound", unfollowed := true, recurses := true, apart := false }
def TypesRoundSaid : Prop := typesRoundRow.holds Try.pinned (OpenSpec.ofChange typesRoundSpec)

/-- ITS FALSE NEIGHBOUR: 'it returns false'. Refute it at one input. -/
def typesRoundWrong : ChangeSpec := { name := "typesRound", fn := fun _ => fun
  | [d1, d2] => { results := [.lit (.bool false)], args := [d1, d2] }
  | _ => none }
def TypesRoundWrongFalsely : Prop := typesRoundRow.holds Try.pinned (OpenSpec.ofChange typesRoundWrong)

/-- 'ferrulelaw05.TypesAdd': WHATEVER THE INPUT: true; the input reads as it did. -/
def typesAddSpec : ChangeSpec := { name := "typesAdd", fn := fun _ => fun
  | [d1, d2, d3] => { results := [.lit (.bool true)], args := [d1, d2, d3] }
  | _ => none }
def typesAddRow : OpenClaim := { program := "ytioediibbgklcaa", sum := "00a7fad9a23d7fcb3d53edd8c3a36976c01c82f7dac490b6e1cd1b3d81a008f8", func := "ferrule/ferrulelaw05.TypesAdd", spec := "typesAdd", unfollowed := true, recurses := true, loops := true, apart := false }
def TypesAddSaid : Prop := typesAddRow.holds Try.pinned (OpenSpec.ofChange typesAddSpec)

/-- ITS FALSE NEIGHBOUR: 'it returns false'. Refute it at one input. -/
def typesAddWrong : ChangeSpec := { name := "typesAdd", fn := fun _ => fun
  | [d1, d2, d3] => { results := [.lit (.bool false)], args := [d1, d2, d3] }
  | _ => none }
def TypesAddWrongFalsely : Prop := typesAddRow.holds Try.pinned (OpenSpec.ofChange typesAddWrong)

/-- 'ferrulelaw05.TypesEnums': WHATEVER THE INPUT: true; the input reads as it did. -/
def typesEnumsSpec : ChangeSpec := { name := "typesEnums", fn := fun _ => fun
  | [d1, d2] => { results := [.lit (.bool true)], args := [d1, d2] }
  | _ => none }
def typesEnumsRow : OpenClaim := { program := "ytioediibbgklcaa", sum := "00a7fad9a23d7fcb3d53edd8c3a36976c01c82f7dac490b6e1cd1b3d81a008f8", func := "ferrule/ferrulelaw05.TypesEnums", spec := "typesEnums", unfollowed := true, recurses := true, apart := false }
def TypesEnumsSaid : Prop := typesEnumsRow.holds Try.pinned (OpenSpec.ofChange typesEnumsSpec)

/-- ITS FALSE NEIGHBOUR: 'it returns false'. Refute it at one input. -/
def typesEnumsWrong : ChangeSpec := { name := "typesEnums", fn := fun _ => fun
  | [d1, d2] => { results := [.lit (.bool false)], args := [d1, d2] }
  | _ => none }
def TypesEnumsWrongFalsely : Prop := typesEnumsRow.holds Try.pinned (OpenSpec.ofChange typesEnumsWrong)

/-- 'ferrulelaw05.TypesTell': WHATEVER THE INPUT: true; the input reads as it did. -/
def typesTellSpec : ChangeSpec := { name := "typesTell", fn := fun _ => fun
  | [d1, d2, d3] => { results := [.lit (.bool true)], args := [d1, d2, d3] }
  | _ => none }
def typesTellRow : OpenClaim := { program := "ytioediibbgklcaa", sum := "00a7fad9a23d7fcb3d53edd8c3a36976c01c82f7dac490b6e1cd1b3d81a008f8", func := "ferrule/ferrulelaw05.TypesTell", spec := "typesTell", unfollowed := true, recurses := true, loops := true, apart := false }
def TypesTellSaid : Prop := typesTellRow.holds Try.pinned (OpenSpec.ofChange typesTellSpec)

/-- ITS FALSE NEIGHBOUR: 'it returns false'. Refute it at one input. -/
def typesTellWrong : ChangeSpec := { name := "typesTell", fn := fun _ => fun
  | [d1, d2, d3] => { results := [.lit (.bool false)], args := [d1, d2, d3] }
  | _ => none }
def TypesTellWrongFalsely : Prop := typesTellRow.holds Try.pinned (OpenSpec.ofChange typesTellWrong)

/- THE SECOND FORM. 'bulk': how many values and letters a reading holds, each counted each time it is reached (what is shared counts as often as it is met; a slice's spare places count too). A statement '..UptoSaid' is the law's where the arguments, and the package variables that the reading takes, are together of bulk at most 1048576: NARROWER than '..Said'. Prove '..Said' where nothing that the law and all that it calls make is longer than what came in: it says more and counts as full. Else prove '..UptoSaid'. A law counts once. -/
mutual
def uptoBulk {H : Type} : DataW H → Nat
  | .lit (.string bytes) => bytes.length + 1
  | .lit _ => 1
  | .nil => 1
  | .ptr d => uptoBulk d + 1
  | .slice elems spare => uptoBulkAll elems + uptoBulkAll spare + 1
  | .agg parts => uptoBulkAll parts + 1
  | .iface _ d => uptoBulk d + 1
  | .map entries => uptoBulkEntries entries + 1
  | .held _ => 1
def uptoBulkAll {H : Type} : List (DataW H) → Nat
  | [] => 0
  | d :: r => uptoBulk d + uptoBulkAll r
def uptoBulkEntries {H : Type} : List (Lit × DataW H) → Nat
  | [] => 0
  | x :: r => uptoBulkEntry x + uptoBulkEntries r
def uptoBulkEntry {H : Type} : Lit × DataW H → Nat
  | (.string bytes, d) => bytes.length + uptoBulk d + 1
  | (_, d) => uptoBulk d + 1
 end
def uptoSmall : (H : Type) → List (DataW H) → Bool := fun _ ds => decide (uptoBulkAll ds ≤ 1048576)
def OpenSpec.upto (s : _root_.Go.ChangeSpec) : _root_.Go.OpenSpec := { _root_.Go.OpenSpec.ofChange s with cond := some uptoSmall }

/-- 'ferrulelaw05.TypesRound', WHERE WHAT IT READS IS OF BULK AT MOST 1048576: true; the input reads as it did. -/
def typesRoundUptoRow : OpenClaim := { program := "ytioediibbgklcaa", sum := "00a7fad9a23d7fcb3d53edd8c3a36976c01c82f7dac490b6e1cd1b3d81a008f8", func := "ferrule/ferrulelaw05.TypesRound", spec := "typesRound", unfollowed := true, recurses := true, apart := false, narrowed := true }
def TypesRoundUptoSaid : Prop := typesRoundUptoRow.holds Try.pinned (OpenSpec.upto typesRoundSpec)

/-- 'ferrulelaw05.TypesAdd', WHERE WHAT IT READS IS OF BULK AT MOST 1048576: true; the input reads as it did. -/
def typesAddUptoRow : OpenClaim := { program := "ytioediibbgklcaa", sum := "00a7fad9a23d7fcb3d53edd8c3a36976c01c82f7dac490b6e1cd1b3d81a008f8", func := "ferrule/ferrulelaw05.TypesAdd", spec := "typesAdd", unfollowed := true, recurses := true, loops := true, apart := false, narrowed := true }
def TypesAddUptoSaid : Prop := typesAddUptoRow.holds Try.pinned (OpenSpec.upto typesAddSpec)

/-- 'ferrulelaw05.TypesEnums', WHERE WHAT IT READS IS OF BULK AT MOST 1048576: true; the input reads as it did. -/
def typesEnumsUptoRow : OpenClaim := { program := "ytioediibbgklcaa", sum := "00a7fad9a23d7fcb3d53edd8c3a36976c01c82f7dac490b6e1cd1b3d81a008f8", func := "ferrule/ferrulelaw05.TypesEnums", spec := "typesEnums", unfollowed := true, recurses := true, apart := false, narrowed := true }
def TypesEnumsUptoSaid : Prop := typesEnumsUptoRow.holds Try.pinned (OpenSpec.upto typesEnumsSpec)

/-- 'ferrulelaw05.TypesTell', WHERE WHAT IT READS IS OF BULK AT MOST 1048576: true; the input reads as it did. -/
def typesTellUptoRow : OpenClaim := { program := "ytioediibbgklcaa", sum := "00a7fad9a23d7fcb3d53edd8c3a36976c01c82f7dac490b6e1cd1b3d81a008f8", func := "ferrule/ferrulelaw05.TypesTell", spec := "typesTell", unfollowed := true, recurses := true, loops := true, apart := false, narrowed := true }
def TypesTellUptoSaid : Prop := typesTellUptoRow.holds Try.pinned (OpenSpec.upto typesTellSpec)

end Rows
end Go.Proofs.Ytioediibbgklcaa
