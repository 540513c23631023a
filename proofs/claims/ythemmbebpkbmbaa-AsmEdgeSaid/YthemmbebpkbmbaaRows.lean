/-
  No cell of these rows narrows 'for every input' (looked for: loops, veiled, ifaces, maps, wideKeys, modest, calm, conditions, laid).
  DERIVED. THE GIVEN ROWS OF THIS SEAT. 4 by the template 'for every input the law returns true; each argument reads behind the call as it read before'; 0 by the template 'total and deterministic' (their statements: YthemmbebpkbmbaaTotals.lean).
  GIVEN WITH THE SEED: the statements are not yours to turn. If you find one false, say at which input.
  Laid BY PROGRAM, IN A SANDBOX (cutbox-rows.mjs): the forced cells as the released guide's own fill.sh prints them over the translation ec3435402ebd5f8d… (all of the seat's roots in one cut). By AI agents, Wed Nov 11 2026. No macro, syntax, notation, axiom, sorry.
-/
import Derived.Test.YthemmbebpkbmbaaChecked
import GoSem.Claim
import GoSem.ClaimJoined
import GoSem.ClaimMapViews
import Derived.JoinedTies
import Derived.KernelRfl
namespace Go.Proofs.Ythemmbebpkbmbaa
/- THE CELL 'sum', in the pinned program and in every row, IS THE sha256 OF THE DUMP (.gsa) THAT YthemmbebpkbmbaaProg.lean LOADS. Nothing in Lean hashes anything: it is a label: what it is worth is what the hold of that sum in a sandbox is worth. -/
noncomputable def Try.pinned : Pinned := { name := "ythemmbebpkbmbaa", sum := "ec3435402ebd5f8dd0aa0c49d4e733e402ee5ff61f25d4d79ba42060249e3939", checked := Try.checked }
namespace Rows
def none {H : Type} : Left H := { results := [], args := [] }

/-- 'ferrulelaw23.AsmEdge': WHATEVER THE INPUT: true; the input reads as it did. -/
def asmEdgeSpec : ChangeSpec := { name := "asmEdge", fn := fun _ => fun
  | [d1, d2] => { results := [.lit (.bool true)], args := [d1, d2] }
  | _ => none }
def asmEdgeRow : OpenClaim := { program := "ythemmbebpkbmbaa", sum := "ec3435402ebd5f8dd0aa0c49d4e733e402ee5ff61f25d4d79ba42060249e3939", func := "ferrule/ferrulelaw23.AsmEdge", spec := "asmEdge", unfollowed := true, recurses := true, apart := false }
def AsmEdgeSaid : Prop := asmEdgeRow.holds Try.pinned (OpenSpec.ofChange asmEdgeSpec)

/-- ITS FALSE NEIGHBOUR: 'it returns false'. Refute it at one input. -/
def asmEdgeWrong : ChangeSpec := { name := "asmEdge", fn := fun _ => fun
  | [d1, d2] => { results := [.lit (.bool false)], args := [d1, d2] }
  | _ => none }
def AsmEdgeWrongFalsely : Prop := asmEdgeRow.holds Try.pinned (OpenSpec.ofChange asmEdgeWrong)

/-- 'ferrulelaw23.AsmMore': WHATEVER THE INPUT: true; the input reads as it did. -/
def asmMoreSpec : ChangeSpec := { name := "asmMore", fn := fun _ => fun
  | [d1, d2, d3] => { results := [.lit (.bool true)], args := [d1, d2, d3] }
  | _ => none }
def asmMoreRow : OpenClaim := { program := "ythemmbebpkbmbaa", sum := "ec3435402ebd5f8dd0aa0c49d4e733e402ee5ff61f25d4d79ba42060249e3939", func := "ferrule/ferrulelaw23.AsmMore", spec := "asmMore", unfollowed := true, recurses := true, apart := false }
def AsmMoreSaid : Prop := asmMoreRow.holds Try.pinned (OpenSpec.ofChange asmMoreSpec)

/-- ITS FALSE NEIGHBOUR: 'it returns false'. Refute it at one input. -/
def asmMoreWrong : ChangeSpec := { name := "asmMore", fn := fun _ => fun
  | [d1, d2, d3] => { results := [.lit (.bool false)], args := [d1, d2, d3] }
  | _ => none }
def AsmMoreWrongFalsely : Prop := asmMoreRow.holds Try.pinned (OpenSpec.ofChange asmMoreWrong)

/-- 'ferrulelaw23.AsmNames': WHATEVER THE INPUT: true; the input reads as it did. -/
def asmNamesSpec : ChangeSpec := { name := "asmNames", fn := fun _ => fun
  | [d] => { results := [.lit (.bool true)], args := [d] }
  | _ => none }
def asmNamesRow : OpenClaim := { program := "ythemmbebpkbmbaa", sum := "ec3435402ebd5f8dd0aa0c49d4e733e402ee5ff61f25d4d79ba42060249e3939", func := "ferrule/ferrulelaw23.AsmNames", spec := "asmNames", unfollowed := true, recurses := true, apart := false }
def AsmNamesSaid : Prop := asmNamesRow.holds Try.pinned (OpenSpec.ofChange asmNamesSpec)

/-- ITS FALSE NEIGHBOUR: 'it returns false'. Refute it at one input. -/
def asmNamesWrong : ChangeSpec := { name := "asmNames", fn := fun _ => fun
  | [d] => { results := [.lit (.bool false)], args := [d] }
  | _ => none }
def AsmNamesWrongFalsely : Prop := asmNamesRow.holds Try.pinned (OpenSpec.ofChange asmNamesWrong)

/-- 'ferrulelaw23.AsmReach': WHATEVER THE INPUT: true; the input reads as it did. -/
def asmReachSpec : ChangeSpec := { name := "asmReach", fn := fun _ => fun
  | [d] => { results := [.lit (.bool true)], args := [d] }
  | _ => none }
def asmReachRow : OpenClaim := { program := "ythemmbebpkbmbaa", sum := "ec3435402ebd5f8dd0aa0c49d4e733e402ee5ff61f25d4d79ba42060249e3939", func := "ferrule/ferrulelaw23.AsmReach", spec := "asmReach", unfollowed := true, recurses := true, apart := false }
def AsmReachSaid : Prop := asmReachRow.holds Try.pinned (OpenSpec.ofChange asmReachSpec)

/-- ITS FALSE NEIGHBOUR: 'it returns false'. Refute it at one input. -/
def asmReachWrong : ChangeSpec := { name := "asmReach", fn := fun _ => fun
  | [d] => { results := [.lit (.bool false)], args := [d] }
  | _ => none }
def AsmReachWrongFalsely : Prop := asmReachRow.holds Try.pinned (OpenSpec.ofChange asmReachWrong)

/- THE SECOND FORM. 'bulk': how many values and letters a reading holds, each counted each time it is reached (what is shared counts as often as it is met; a slice's spare places count too). A statement '..UptoSaid' is the law's where the arguments, and the package variables that the reading takes, are together of bulk at most 1048576: NARROWER than '..Said'. Prove '..Said' where nothing that the law and all that it calls make is longer than what came in: it says more and counts as full. Else prove '..UptoSaid'. A law counts once. -/
mutual
def uptoBulk {H : Type} : DataW H → Nat
  | .lit (.string bytes) => bytes.length + 1
  | .lit _ => 1
  | .nil => 1
  | .ptr d => uptoBulk d + 1
  | .slice elems spare => uptoBulkAll elems + uptoBulkAll spare + 1
  | .agg parts => uptoBulkAll parts + 1
  | .iface _ d => uptoBulk d + 1
  | .map entries => uptoBulkEntries entries + 1
  | .held _ => 1
def uptoBulkAll {H : Type} : List (DataW H) → Nat
  | [] => 0
  | d :: r => uptoBulk d + uptoBulkAll r
def uptoBulkEntries {H : Type} : List (Lit × DataW H) → Nat
  | [] => 0
  | x :: r => uptoBulkEntry x + uptoBulkEntries r
def uptoBulkEntry {H : Type} : Lit × DataW H → Nat
  | (.string bytes, d) => bytes.length + uptoBulk d + 1
  | (_, d) => uptoBulk d + 1
 end
def uptoSmall : (H : Type) → List (DataW H) → Bool := fun _ ds => decide (uptoBulkAll ds ≤ 1048576)
def OpenSpec.upto (s : _root_.Go.ChangeSpec) : _root_.Go.OpenSpec := { _root_.Go.OpenSpec.ofChange s with cond := some uptoSmall }

/-- 'ferrulelaw23.AsmEdge', WHERE WHAT IT READS IS OF BULK AT MOST 1048576: true; the input reads as it did. -/
def asmEdgeUptoRow : OpenClaim := { program := "ythemmbebpkbmbaa", sum := "ec3435402ebd5f8dd0aa0c49d4e733e402ee5ff61f25d4d79ba42060249e3939", func := "ferrule/ferrulelaw23.AsmEdge", spec := "asmEdge", unfollowed := true, recurses := true, apart := false, narrowed := true }
def AsmEdgeUptoSaid : Prop := asmEdgeUptoRow.holds Try.pinned (OpenSpec.upto asmEdgeSpec)

/-- 'ferrulelaw23.AsmMore', WHERE WHAT IT READS IS OF BULK AT MOST 1048576: true; the input reads as it did. -/
def asmMoreUptoRow : OpenClaim := { program := "ythemmbebpkbmbaa", sum := "ec3435402ebd5f8dd0aa0c49d4e733e402ee5ff61f25d4d79ba42060249e3939", func := "ferrule/ferrulelaw23.AsmMore", spec := "asmMore", unfollowed := true, recurses := true, apart := false, narrowed := true }
def AsmMoreUptoSaid : Prop := asmMoreUptoRow.holds Try.pinned (OpenSpec.upto asmMoreSpec)

/-- 'ferrulelaw23.AsmNames', WHERE WHAT IT READS IS OF BULK AT MOST 1048576: true; the input reads as it did. -/
def asmNamesUptoRow : OpenClaim := { program := "ythemmbebpkbmbaa", sum := "ec3435402ebd5f8dd0aa0c49d4e733e402ee5ff61f25d4d79ba42060249e3939", func := "ferrule/ferrulelaw23.AsmNames", spec := "asmNames", unfollowed := true, recurses := true, apart := false, narrowed := true }
def AsmNamesUptoSaid : Prop := asmNamesUptoRow.holds Try.pinned (OpenSpec.upto asmNamesSpec)

/-- 'ferrulelaw23.AsmReach', WHERE WHAT IT READS IS OF BULK AT MOST 1048576: true; the input reads as it did. -/
def asmReachUptoRow : OpenClaim := { program := "ythemmbebpkbmbaa", sum := "ec3435402ebd5f8dd0aa0c49d4e733e402ee5ff61f25d4d79ba42060249e3939", func := "ferrule/ferrulelaw23.AsmReach", spec := "asmReach", unfollowed := true, recurses := true, apart := false, narrowed := true }
def AsmReachUptoSaid : Prop := asmReachUptoRow.holds Try.pinned (OpenSpec.upto asmReachSpec)

end Rows
end Go.Proofs.Ythemmbebpkbmbaa
