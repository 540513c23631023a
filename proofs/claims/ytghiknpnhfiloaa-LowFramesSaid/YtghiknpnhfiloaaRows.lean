/-
  No cell of these rows narrows 'for every input' (looked for: loops, veiled, ifaces, maps, wideKeys, modest, calm, conditions, laid).
  DERIVED. THE GIVEN ROWS OF THIS SEAT. 4 by the template 'for every input the law returns true; each argument reads behind the call as it read before'; 0 by the template 'total and deterministic' (their statements: YtghiknpnhfiloaaTotals.lean).
  GIVEN WITH THE SEED: the statements are not yours to turn. If you find one false, say at which input.
  Laid BY PROGRAM, IN A SANDBOX (cutbox-rows.mjs): the forced cells as the released guide's own fill.sh prints them over the translation 57f143718abb062a… (all of the seat's roots in one cut). By AI agents, Wed Nov 11 2026. No macro, syntax, notation, axiom, sorry.
-/
import Derived.Test.YtghiknpnhfiloaaChecked
import GoSem.Claim
import GoSem.ClaimJoined
import GoSem.ClaimMapViews
import Derived.JoinedTies
import Derived.KernelRfl
namespace Go.Proofs.Ytghiknpnhfiloaa
/- THE CELL 'sum', in the pinned program and in every row, IS THE sha256 OF THE DUMP (.gsa) THAT YtghiknpnhfiloaaProg.lean LOADS. Nothing in Lean hashes anything: it is a label: what it is worth is what the hold of that sum in a sandbox is worth. -/
noncomputable def Try.pinned : Pinned := { name := "ytghiknpnhfiloaa", sum := "57f143718abb062ae9a4e283b987babe6ab26521b2bd09ab1b91047f99f6dd2b", checked := Try.checked }
namespace Rows
def none {H : Type} : Left H := { results := [], args := [] }

/-- 'ferrulelaw17.LowHolds': WHATEVER THE INPUT: true; the input reads as it did. -/
def lowHoldsSpec : ChangeSpec := { name := "lowHolds", fn := fun _ => fun
  | [d1, d2, d3] => { results := [.lit (.bool true)], args := [d1, d2, d3] }
  | _ => none }
def lowHoldsRow : OpenClaim := { program := "ytghiknpnhfiloaa", sum := "57f143718abb062ae9a4e283b987babe6ab26521b2bd09ab1b91047f99f6dd2b", func := "ferrule/ferrulelaw17.LowHolds", spec := "lowHolds", unfollowed := true, recurses := true, apart := false }
def LowHoldsSaid : Prop := lowHoldsRow.holds Try.pinned (OpenSpec.ofChange lowHoldsSpec)

/-- ITS FALSE NEIGHBOUR: 'it returns false'. Refute it at one input. -/
def lowHoldsWrong : ChangeSpec := { name := "lowHolds", fn := fun _ => fun
  | [d1, d2, d3] => { results := [.lit (.bool false)], args := [d1, d2, d3] }
  | _ => none }
def LowHoldsWrongFalsely : Prop := lowHoldsRow.holds Try.pinned (OpenSpec.ofChange lowHoldsWrong)

/-- 'ferrulelaw17.LowFuel': WHATEVER THE INPUT: true; the input reads as it did. -/
def lowFuelSpec : ChangeSpec := { name := "lowFuel", fn := fun _ => fun
  | [d1, d2, d3] => { results := [.lit (.bool true)], args := [d1, d2, d3] }
  | _ => none }
def lowFuelRow : OpenClaim := { program := "ytghiknpnhfiloaa", sum := "57f143718abb062ae9a4e283b987babe6ab26521b2bd09ab1b91047f99f6dd2b", func := "ferrule/ferrulelaw17.LowFuel", spec := "lowFuel", unfollowed := true, recurses := true, apart := false }
def LowFuelSaid : Prop := lowFuelRow.holds Try.pinned (OpenSpec.ofChange lowFuelSpec)

/-- ITS FALSE NEIGHBOUR: 'it returns false'. Refute it at one input. -/
def lowFuelWrong : ChangeSpec := { name := "lowFuel", fn := fun _ => fun
  | [d1, d2, d3] => { results := [.lit (.bool false)], args := [d1, d2, d3] }
  | _ => none }
def LowFuelWrongFalsely : Prop := lowFuelRow.holds Try.pinned (OpenSpec.ofChange lowFuelWrong)

/-- 'ferrulelaw17.LowCounts': WHATEVER THE INPUT: true; the input reads as it did. -/
def lowCountsSpec : ChangeSpec := { name := "lowCounts", fn := fun _ => fun
  | [d1, d2] => { results := [.lit (.bool true)], args := [d1, d2] }
  | _ => none }
def lowCountsRow : OpenClaim := { program := "ytghiknpnhfiloaa", sum := "57f143718abb062ae9a4e283b987babe6ab26521b2bd09ab1b91047f99f6dd2b", func := "ferrule/ferrulelaw17.LowCounts", spec := "lowCounts", unfollowed := true, recurses := true, apart := false }
def LowCountsSaid : Prop := lowCountsRow.holds Try.pinned (OpenSpec.ofChange lowCountsSpec)

/-- ITS FALSE NEIGHBOUR: 'it returns false'. Refute it at one input. -/
def lowCountsWrong : ChangeSpec := { name := "lowCounts", fn := fun _ => fun
  | [d1, d2] => { results := [.lit (.bool false)], args := [d1, d2] }
  | _ => none }
def LowCountsWrongFalsely : Prop := lowCountsRow.holds Try.pinned (OpenSpec.ofChange lowCountsWrong)

/-- 'ferrulelaw17.LowFrames': WHATEVER THE INPUT: true; the input reads as it did. -/
def lowFramesSpec : ChangeSpec := { name := "lowFrames", fn := fun _ => fun
  | [d1, d2] => { results := [.lit (.bool true)], args := [d1, d2] }
  | _ => none }
def lowFramesRow : OpenClaim := { program := "ytghiknpnhfiloaa", sum := "57f143718abb062ae9a4e283b987babe6ab26521b2bd09ab1b91047f99f6dd2b", func := "ferrule/ferrulelaw17.LowFrames", spec := "lowFrames", unfollowed := true, recurses := true, apart := false }
def LowFramesSaid : Prop := lowFramesRow.holds Try.pinned (OpenSpec.ofChange lowFramesSpec)

/-- ITS FALSE NEIGHBOUR: 'it returns false'. Refute it at one input. -/
def lowFramesWrong : ChangeSpec := { name := "lowFrames", fn := fun _ => fun
  | [d1, d2] => { results := [.lit (.bool false)], args := [d1, d2] }
  | _ => none }
def LowFramesWrongFalsely : Prop := lowFramesRow.holds Try.pinned (OpenSpec.ofChange lowFramesWrong)

/- THE SECOND FORM. 'bulk': how many values and letters a reading holds, each counted each time it is reached (what is shared counts as often as it is met; a slice's spare places count too). A statement '..UptoSaid' is the law's where the arguments, and the package variables that the reading takes, are together of bulk at most 1048576: NARROWER than '..Said'. Prove '..Said' where nothing that the law and all that it calls make is longer than what came in: it says more and counts as full. Else prove '..UptoSaid'. A law counts once. -/
mutual
def uptoBulk {H : Type} : DataW H → Nat
  | .lit (.string bytes) => bytes.length + 1
  | .lit _ => 1
  | .nil => 1
  | .ptr d => uptoBulk d + 1
  | .slice elems spare => uptoBulkAll elems + uptoBulkAll spare + 1
  | .agg parts => uptoBulkAll parts + 1
  | .iface _ d => uptoBulk d + 1
  | .map entries => uptoBulkEntries entries + 1
  | .held _ => 1
def uptoBulkAll {H : Type} : List (DataW H) → Nat
  | [] => 0
  | d :: r => uptoBulk d + uptoBulkAll r
def uptoBulkEntries {H : Type} : List (Lit × DataW H) → Nat
  | [] => 0
  | x :: r => uptoBulkEntry x + uptoBulkEntries r
def uptoBulkEntry {H : Type} : Lit × DataW H → Nat
  | (.string bytes, d) => bytes.length + uptoBulk d + 1
  | (_, d) => uptoBulk d + 1
 end
def uptoSmall : (H : Type) → List (DataW H) → Bool := fun _ ds => decide (uptoBulkAll ds ≤ 1048576)
def OpenSpec.upto (s : _root_.Go.ChangeSpec) : _root_.Go.OpenSpec := { _root_.Go.OpenSpec.ofChange s with cond := some uptoSmall }

/-- 'ferrulelaw17.LowHolds', WHERE WHAT IT READS IS OF BULK AT MOST 1048576: true; the input reads as it did. -/
def lowHoldsUptoRow : OpenClaim := { program := "ytghiknpnhfiloaa", sum := "57f143718abb062ae9a4e283b987babe6ab26521b2bd09ab1b91047f99f6dd2b", func := "ferrule/ferrulelaw17.LowHolds", spec := "lowHolds", unfollowed := true, recurses := true, apart := false, narrowed := true }
def LowHoldsUptoSaid : Prop := lowHoldsUptoRow.holds Try.pinned (OpenSpec.upto lowHoldsSpec)

/-- 'ferrulelaw17.LowFuel', WHERE WHAT IT READS IS OF BULK AT MOST 1048576: true; the input reads as it did. -/
def lowFuelUptoRow : OpenClaim := { program := "ytghiknpnhfiloaa", sum := "57f143718abb062ae9a4e283b987babe6ab26521b2bd09ab1b91047f99f6dd2b", func := "ferrule/ferrulelaw17.LowFuel", spec := "lowFuel", unfollowed := true, recurses := true, apart := false, narrowed := true }
def LowFuelUptoSaid : Prop := lowFuelUptoRow.holds Try.pinned (OpenSpec.upto lowFuelSpec)

/-- 'ferrulelaw17.LowCounts', WHERE WHAT IT READS IS OF BULK AT MOST 1048576: true; the input reads as it did. -/
def lowCountsUptoRow : OpenClaim := { program := "ytghiknpnhfiloaa", sum := "57f143718abb062ae9a4e283b987babe6ab26521b2bd09ab1b91047f99f6dd2b", func := "ferrule/ferrulelaw17.LowCounts", spec := "lowCounts", unfollowed := true, recurses := true, apart := false, narrowed := true }
def LowCountsUptoSaid : Prop := lowCountsUptoRow.holds Try.pinned (OpenSpec.upto lowCountsSpec)

/-- 'ferrulelaw17.LowFrames', WHERE WHAT IT READS IS OF BULK AT MOST 1048576: true; the input reads as it did. -/
def lowFramesUptoRow : OpenClaim := { program := "ytghiknpnhfiloaa", sum := "57f143718abb062ae9a4e283b987babe6ab26521b2bd09ab1b91047f99f6dd2b", func := "ferrule/ferrulelaw17.LowFrames", spec := "lowFrames", unfollowed := true, recurses := true, apart := false, narrowed := true }
def LowFramesUptoSaid : Prop := lowFramesUptoRow.holds Try.pinned (OpenSpec.upto lowFramesSpec)

end Rows
end Go.Proofs.Ytghiknpnhfiloaa
