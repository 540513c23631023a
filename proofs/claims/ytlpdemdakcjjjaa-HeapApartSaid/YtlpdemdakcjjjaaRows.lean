/-
  No cell of these rows narrows 'for every input' (looked for: loops, veiled, ifaces, maps, wideKeys, modest, calm, conditions, laid).
  DERIVED. THE GIVEN ROWS OF THIS SEAT. 5 by the template 'for every input the law returns true; each argument reads behind the call as it read before'; 0 by the template 'total and deterministic' (their statements: YtlpdemdakcjjjaaTotals.lean).
  GIVEN WITH THE SEED: the statements are not yours to turn. If you find one false, say at which input.
  Laid BY PROGRAM, IN A SANDBOX (cutbox-rows.mjs): the forced cells as the released guide's own fill.sh prints them over the translation ef4a72fe728e05a4… (all of the seat's roots in one cut). By AI agents, Wed Nov 11 2026. No macro, syntax, notation, axiom, sorry.
-/
import Derived.Test.YtlpdemdakcjjjaaChecked
import GoSem.Claim
import GoSem.ClaimJoined
import GoSem.ClaimMapViews
import Derived.JoinedTies
import Derived.KernelRfl
namespace Go.Proofs.Ytlpdemdakcjjjaa
/- THE CELL 'sum', in the pinned program and in every row, IS THE sha256 OF THE DUMP (.gsa) THAT YtlpdemdakcjjjaaProg.lean LOADS. Nothing in Lean hashes anything: it is a label: what it is worth is what the hold of that sum in a sandbox is worth. -/
noncomputable def Try.pinned : Pinned := { name := "ytlpdemdakcjjjaa", sum := "ef4a72fe728e05a49c00a4c1fdf054ef14b6b7a8313a562e5484172acc50aed9", checked := Try.checked }
namespace Rows
def none {H : Type} : Left H := { results := [], args := [] }

/-- 'ferrulelaw09.HeapClasses': WHATEVER THE INPUT: true; the input reads as it did. -/
def heapClassesSpec : ChangeSpec := { name := "heapClasses", fn := fun _ => fun
  | [d1, d2] => { results := [.lit (.bool true)], args := [d1, d2] }
  | _ => none }
def heapClassesRow : OpenClaim := { program := "ytlpdemdakcjjjaa", sum := "ef4a72fe728e05a49c00a4c1fdf054ef14b6b7a8313a562e5484172acc50aed9", func := "ferrule/ferrulelaw09.HeapClasses", spec := "heapClasses", apart := false }
def HeapClassesSaid : Prop := heapClassesRow.holds Try.pinned (OpenSpec.ofChange heapClassesSpec)

/-- ITS FALSE NEIGHBOUR: 'it returns false'. Refute it at one input. -/
def heapClassesWrong : ChangeSpec := { name := "heapClasses", fn := fun _ => fun
  | [d1, d2] => { results := [.lit (.bool false)], args := [d1, d2] }
  | _ => none }
def HeapClassesWrongFalsely : Prop := heapClassesRow.holds Try.pinned (OpenSpec.ofChange heapClassesWrong)

/-- 'ferrulelaw09.HeapNobody': WHATEVER THE INPUT: true; the input reads as it did. -/
def heapNobodySpec : ChangeSpec := { name := "heapNobody", fn := fun _ => fun
  | [d] => { results := [.lit (.bool true)], args := [d] }
  | _ => none }
def heapNobodyRow : OpenClaim := { program := "ytlpdemdakcjjjaa", sum := "ef4a72fe728e05a49c00a4c1fdf054ef14b6b7a8313a562e5484172acc50aed9", func := "ferrule/ferrulelaw09.HeapNobody", spec := "heapNobody", unfollowed := true, recurses := true, apart := false }
def HeapNobodySaid : Prop := heapNobodyRow.holds Try.pinned (OpenSpec.ofChange heapNobodySpec)

/-- ITS FALSE NEIGHBOUR: 'it returns false'. Refute it at one input. -/
def heapNobodyWrong : ChangeSpec := { name := "heapNobody", fn := fun _ => fun
  | [d] => { results := [.lit (.bool false)], args := [d] }
  | _ => none }
def HeapNobodyWrongFalsely : Prop := heapNobodyRow.holds Try.pinned (OpenSpec.ofChange heapNobodyWrong)

/-- 'ferrulelaw09.HeapFills': WHATEVER THE INPUT: true; the input reads as it did. -/
def heapFillsSpec : ChangeSpec := { name := "heapFills", fn := fun _ => fun
  | [d1, d2] => { results := [.lit (.bool true)], args := [d1, d2] }
  | _ => none }
def heapFillsRow : OpenClaim := { program := "ytlpdemdakcjjjaa", sum := "ef4a72fe728e05a49c00a4c1fdf054ef14b6b7a8313a562e5484172acc50aed9", func := "ferrule/ferrulelaw09.HeapFills", spec := "heapFills", unfollowed := true, recurses := true, apart := false }
def HeapFillsSaid : Prop := heapFillsRow.holds Try.pinned (OpenSpec.ofChange heapFillsSpec)

/-- ITS FALSE NEIGHBOUR: 'it returns false'. Refute it at one input. -/
def heapFillsWrong : ChangeSpec := { name := "heapFills", fn := fun _ => fun
  | [d1, d2] => { results := [.lit (.bool false)], args := [d1, d2] }
  | _ => none }
def HeapFillsWrongFalsely : Prop := heapFillsRow.holds Try.pinned (OpenSpec.ofChange heapFillsWrong)

/-- 'ferrulelaw09.HeapPlays': WHATEVER THE INPUT: true; the input reads as it did. -/
def heapPlaysSpec : ChangeSpec := { name := "heapPlays", fn := fun _ => fun
  | [d] => { results := [.lit (.bool true)], args := [d] }
  | _ => none }
def heapPlaysRow : OpenClaim := { program := "ytlpdemdakcjjjaa", sum := "ef4a72fe728e05a49c00a4c1fdf054ef14b6b7a8313a562e5484172acc50aed9", func := "ferrule/ferrulelaw09.HeapPlays", spec := "heapPlays", unfollowed := true, recurses := true, apart := false }
def HeapPlaysSaid : Prop := heapPlaysRow.holds Try.pinned (OpenSpec.ofChange heapPlaysSpec)

/-- ITS FALSE NEIGHBOUR: 'it returns false'. Refute it at one input. -/
def heapPlaysWrong : ChangeSpec := { name := "heapPlays", fn := fun _ => fun
  | [d] => { results := [.lit (.bool false)], args := [d] }
  | _ => none }
def HeapPlaysWrongFalsely : Prop := heapPlaysRow.holds Try.pinned (OpenSpec.ofChange heapPlaysWrong)

/-- 'ferrulelaw09.HeapApart': WHATEVER THE INPUT: true; the input reads as it did. -/
def heapApartSpec : ChangeSpec := { name := "heapApart", fn := fun _ => fun
  | [d1, d2] => { results := [.lit (.bool true)], args := [d1, d2] }
  | _ => none }
def heapApartRow : OpenClaim := { program := "ytlpdemdakcjjjaa", sum := "ef4a72fe728e05a49c00a4c1fdf054ef14b6b7a8313a562e5484172acc50aed9", func := "ferrule/ferrulelaw09.HeapApart", spec := "heapApart", unfollowed := true, recurses := true, apart := false }
def HeapApartSaid : Prop := heapApartRow.holds Try.pinned (OpenSpec.ofChange heapApartSpec)

/-- ITS FALSE NEIGHBOUR: 'it returns false'. Refute it at one input. -/
def heapApartWrong : ChangeSpec := { name := "heapApart", fn := fun _ => fun
  | [d1, d2] => { results := [.lit (.bool false)], args := [d1, d2] }
  | _ => none }
def HeapApartWrongFalsely : Prop := heapApartRow.holds Try.pinned (OpenSpec.ofChange heapApartWrong)

/- THE SECOND FORM. 'bulk': how many values and letters a reading holds, each counted each time it is reached (what is shared counts as often as it is met; a slice's spare places count too). A statement '..UptoSaid' is the law's where the arguments, and the package variables that the reading takes, are together of bulk at most 1048576: NARROWER than '..Said'. Prove '..Said' where nothing that the law and all that it calls make is longer than what came in: it says more and counts as full. Else prove '..UptoSaid'. A law counts once. -/
mutual
def uptoBulk {H : Type} : DataW H → Nat
  | .lit (.string bytes) => bytes.length + 1
  | .lit _ => 1
  | .nil => 1
  | .ptr d => uptoBulk d + 1
  | .slice elems spare => uptoBulkAll elems + uptoBulkAll spare + 1
  | .agg parts => uptoBulkAll parts + 1
  | .iface _ d => uptoBulk d + 1
  | .map entries => uptoBulkEntries entries + 1
  | .held _ => 1
def uptoBulkAll {H : Type} : List (DataW H) → Nat
  | [] => 0
  | d :: r => uptoBulk d + uptoBulkAll r
def uptoBulkEntries {H : Type} : List (Lit × DataW H) → Nat
  | [] => 0
  | x :: r => uptoBulkEntry x + uptoBulkEntries r
def uptoBulkEntry {H : Type} : Lit × DataW H → Nat
  | (.string bytes, d) => bytes.length + uptoBulk d + 1
  | (_, d) => uptoBulk d + 1
 end
def uptoSmall : (H : Type) → List (DataW H) → Bool := fun _ ds => decide (uptoBulkAll ds ≤ 1048576)
def OpenSpec.upto (s : _root_.Go.ChangeSpec) : _root_.Go.OpenSpec := { _root_.Go.OpenSpec.ofChange s with cond := some uptoSmall }

/-- 'ferrulelaw09.HeapClasses', WHERE WHAT IT READS IS OF BULK AT MOST 1048576: true; the input reads as it did. -/
def heapClassesUptoRow : OpenClaim := { program := "ytlpdemdakcjjjaa", sum := "ef4a72fe728e05a49c00a4c1fdf054ef14b6b7a8313a562e5484172acc50aed9", func := "ferrule/ferrulelaw09.HeapClasses", spec := "heapClasses", apart := false, narrowed := true }
def HeapClassesUptoSaid : Prop := heapClassesUptoRow.holds Try.pinned (OpenSpec.upto heapClassesSpec)

/-- 'ferrulelaw09.HeapNobody', WHERE WHAT IT READS IS OF BULK AT MOST 1048576: true; the input reads as it did. -/
def heapNobodyUptoRow : OpenClaim := { program := "ytlpdemdakcjjjaa", sum := "ef4a72fe728e05a49c00a4c1fdf054ef14b6b7a8313a562e5484172acc50aed9", func := "ferrule/ferrulelaw09.HeapNobody", spec := "heapNobody", unfollowed := true, recurses := true, apart := false, narrowed := true }
def HeapNobodyUptoSaid : Prop := heapNobodyUptoRow.holds Try.pinned (OpenSpec.upto heapNobodySpec)

/-- 'ferrulelaw09.HeapFills', WHERE WHAT IT READS IS OF BULK AT MOST 1048576: true; the input reads as it did. -/
def heapFillsUptoRow : OpenClaim := { program := "ytlpdemdakcjjjaa", sum := "ef4a72fe728e05a49c00a4c1fdf054ef14b6b7a8313a562e5484172acc50aed9", func := "ferrule/ferrulelaw09.HeapFills", spec := "heapFills", unfollowed := true, recurses := true, apart := false, narrowed := true }
def HeapFillsUptoSaid : Prop := heapFillsUptoRow.holds Try.pinned (OpenSpec.upto heapFillsSpec)

/-- 'ferrulelaw09.HeapPlays', WHERE WHAT IT READS IS OF BULK AT MOST 1048576: true; the input reads as it did. -/
def heapPlaysUptoRow : OpenClaim := { program := "ytlpdemdakcjjjaa", sum := "ef4a72fe728e05a49c00a4c1fdf054ef14b6b7a8313a562e5484172acc50aed9", func := "ferrule/ferrulelaw09.HeapPlays", spec := "heapPlays", unfollowed := true, recurses := true, apart := false, narrowed := true }
def HeapPlaysUptoSaid : Prop := heapPlaysUptoRow.holds Try.pinned (OpenSpec.upto heapPlaysSpec)

/-- 'ferrulelaw09.HeapApart', WHERE WHAT IT READS IS OF BULK AT MOST 1048576: true; the input reads as it did. -/
def heapApartUptoRow : OpenClaim := { program := "ytlpdemdakcjjjaa", sum := "ef4a72fe728e05a49c00a4c1fdf054ef14b6b7a8313a562e5484172acc50aed9", func := "ferrule/ferrulelaw09.HeapApart", spec := "heapApart", unfollowed := true, recurses := true, apart := false, narrowed := true }
def HeapApartUptoSaid : Prop := heapApartUptoRow.holds Try.pinned (OpenSpec.upto heapApartSpec)

end Rows
end Go.Proofs.Ytlpdemdakcjjjaa
