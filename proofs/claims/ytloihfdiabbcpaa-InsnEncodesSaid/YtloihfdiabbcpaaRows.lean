/-
  No cell of these rows narrows 'for every input' (looked for: loops, veiled, ifaces, maps, wideKeys, modest, calm, conditions, laid).
  DERIVED. THE GIVEN ROWS OF THIS SEAT. 6 by the template 'for every input the law returns true; each argument reads behind the call as it read before'; 0 by the template 'total and deterministic' (their statements: YtloihfdiabbcpaaTotals.lean).
  GIVEN WITH THE SEED: the statements are not yours to turn. If you find one false, say at which input.
  Laid BY PROGRAM, IN A SANDBOX (cutbox-rows.mjs): the forced cells as the released guide's own fill.sh prints them over the translation 01f4d5b6db24cf26… (all of the seat's roots in one cut). By AI agents, Wed Nov 11 2026. No macro, syntax, notation, axiom, sorry.
-/
import Derived.Test.YtloihfdiabbcpaaChecked
import GoSem.Claim
import GoSem.ClaimJoined
import GoSem.ClaimMapViews
import Derived.JoinedTies
import Derived.KernelRfl
namespace Go.Proofs.Ytloihfdiabbcpaa
/- THE CELL 'sum', in the pinned program and in every row, IS THE sha256 OF THE DUMP (.gsa) THAT YtloihfdiabbcpaaProg.lean LOADS. Nothing in Lean hashes anything: it is a label: what it is worth is what the hold of that sum in a sandbox is worth. -/
noncomputable def Try.pinned : Pinned := { name := "ytloihfdiabbcpaa", sum := "01f4d5b6db24cf26848a236f387e1aea5750df0fe0861f000321ed3e702e3e53", checked := Try.checked }
namespace Rows
def none {H : Type} : Left H := { results := [], args := [] }

/-- 'ferrulelaw22.InsnDecodes': WHATEVER THE INPUT: true; the input reads as it did. -/
def insnDecodesSpec : ChangeSpec := { name := "insnDecodes", fn := fun _ => fun
  | [d] => { results := [.lit (.bool true)], args := [d] }
  | _ => none }
def insnDecodesRow : OpenClaim := { program := "ytloihfdiabbcpaa", sum := "01f4d5b6db24cf26848a236f387e1aea5750df0fe0861f000321ed3e702e3e53", func := "ferrule/ferrulelaw22.InsnDecodes", spec := "insnDecodes", apart := false }
def InsnDecodesSaid : Prop := insnDecodesRow.holds Try.pinned (OpenSpec.ofChange insnDecodesSpec)

/-- ITS FALSE NEIGHBOUR: 'it returns false'. Refute it at one input. -/
def insnDecodesWrong : ChangeSpec := { name := "insnDecodes", fn := fun _ => fun
  | [d] => { results := [.lit (.bool false)], args := [d] }
  | _ => none }
def InsnDecodesWrongFalsely : Prop := insnDecodesRow.holds Try.pinned (OpenSpec.ofChange insnDecodesWrong)

/-- 'ferrulelaw22.InsnEncodes': WHATEVER THE INPUT: true; the input reads as it did. -/
def insnEncodesSpec : ChangeSpec := { name := "insnEncodes", fn := fun _ => fun
  | [d] => { results := [.lit (.bool true)], args := [d] }
  | _ => none }
def insnEncodesRow : OpenClaim := { program := "ytloihfdiabbcpaa", sum := "01f4d5b6db24cf26848a236f387e1aea5750df0fe0861f000321ed3e702e3e53", func := "ferrule/ferrulelaw22.InsnEncodes", spec := "insnEncodes", apart := false }
def InsnEncodesSaid : Prop := insnEncodesRow.holds Try.pinned (OpenSpec.ofChange insnEncodesSpec)

/-- ITS FALSE NEIGHBOUR: 'it returns false'. Refute it at one input. -/
def insnEncodesWrong : ChangeSpec := { name := "insnEncodes", fn := fun _ => fun
  | [d] => { results := [.lit (.bool false)], args := [d] }
  | _ => none }
def InsnEncodesWrongFalsely : Prop := insnEncodesRow.holds Try.pinned (OpenSpec.ofChange insnEncodesWrong)

/-- 'ferrulelaw22.InsnApart': WHATEVER THE INPUT: true; the input reads as it did. -/
def insnApartSpec : ChangeSpec := { name := "insnApart", fn := fun _ => fun
  | [d1, d2] => { results := [.lit (.bool true)], args := [d1, d2] }
  | _ => none }
def insnApartRow : OpenClaim := { program := "ytloihfdiabbcpaa", sum := "01f4d5b6db24cf26848a236f387e1aea5750df0fe0861f000321ed3e702e3e53", func := "ferrule/ferrulelaw22.InsnApart", spec := "insnApart", apart := false }
def InsnApartSaid : Prop := insnApartRow.holds Try.pinned (OpenSpec.ofChange insnApartSpec)

/-- ITS FALSE NEIGHBOUR: 'it returns false'. Refute it at one input. -/
def insnApartWrong : ChangeSpec := { name := "insnApart", fn := fun _ => fun
  | [d1, d2] => { results := [.lit (.bool false)], args := [d1, d2] }
  | _ => none }
def InsnApartWrongFalsely : Prop := insnApartRow.holds Try.pinned (OpenSpec.ofChange insnApartWrong)

/-- 'ferrulelaw22.InsnFields': WHATEVER THE INPUT: true; the input reads as it did. -/
def insnFieldsSpec : ChangeSpec := { name := "insnFields", fn := fun _ => fun
  | [d1, d2, d3] => { results := [.lit (.bool true)], args := [d1, d2, d3] }
  | _ => none }
def insnFieldsRow : OpenClaim := { program := "ytloihfdiabbcpaa", sum := "01f4d5b6db24cf26848a236f387e1aea5750df0fe0861f000321ed3e702e3e53", func := "ferrule/ferrulelaw22.InsnFields", spec := "insnFields", apart := false }
def InsnFieldsSaid : Prop := insnFieldsRow.holds Try.pinned (OpenSpec.ofChange insnFieldsSpec)

/-- ITS FALSE NEIGHBOUR: 'it returns false'. Refute it at one input. -/
def insnFieldsWrong : ChangeSpec := { name := "insnFields", fn := fun _ => fun
  | [d1, d2, d3] => { results := [.lit (.bool false)], args := [d1, d2, d3] }
  | _ => none }
def InsnFieldsWrongFalsely : Prop := insnFieldsRow.holds Try.pinned (OpenSpec.ofChange insnFieldsWrong)

/-- 'ferrulelaw22.InsnBits': WHATEVER THE INPUT: true; the input reads as it did. -/
def insnBitsSpec : ChangeSpec := { name := "insnBits", fn := fun _ => fun
  | [d1, d2] => { results := [.lit (.bool true)], args := [d1, d2] }
  | _ => none }
def insnBitsRow : OpenClaim := { program := "ytloihfdiabbcpaa", sum := "01f4d5b6db24cf26848a236f387e1aea5750df0fe0861f000321ed3e702e3e53", func := "ferrule/ferrulelaw22.InsnBits", spec := "insnBits", apart := false }
def InsnBitsSaid : Prop := insnBitsRow.holds Try.pinned (OpenSpec.ofChange insnBitsSpec)

/-- ITS FALSE NEIGHBOUR: 'it returns false'. Refute it at one input. -/
def insnBitsWrong : ChangeSpec := { name := "insnBits", fn := fun _ => fun
  | [d1, d2] => { results := [.lit (.bool false)], args := [d1, d2] }
  | _ => none }
def InsnBitsWrongFalsely : Prop := insnBitsRow.holds Try.pinned (OpenSpec.ofChange insnBitsWrong)

/-- 'ferrulelaw22.InsnBack': WHATEVER THE INPUT: true; the input reads as it did. -/
def insnBackSpec : ChangeSpec := { name := "insnBack", fn := fun _ => fun
  | [d1, d2] => { results := [.lit (.bool true)], args := [d1, d2] }
  | _ => none }
def insnBackRow : OpenClaim := { program := "ytloihfdiabbcpaa", sum := "01f4d5b6db24cf26848a236f387e1aea5750df0fe0861f000321ed3e702e3e53", func := "ferrule/ferrulelaw22.InsnBack", spec := "insnBack", apart := false }
def InsnBackSaid : Prop := insnBackRow.holds Try.pinned (OpenSpec.ofChange insnBackSpec)

/-- ITS FALSE NEIGHBOUR: 'it returns false'. Refute it at one input. -/
def insnBackWrong : ChangeSpec := { name := "insnBack", fn := fun _ => fun
  | [d1, d2] => { results := [.lit (.bool false)], args := [d1, d2] }
  | _ => none }
def InsnBackWrongFalsely : Prop := insnBackRow.holds Try.pinned (OpenSpec.ofChange insnBackWrong)

/- THE SECOND FORM. 'bulk': how many values and letters a reading holds, each counted each time it is reached (what is shared counts as often as it is met; a slice's spare places count too). A statement '..UptoSaid' is the law's where the arguments, and the package variables that the reading takes, are together of bulk at most 1048576: NARROWER than '..Said'. Prove '..Said' where nothing that the law and all that it calls make is longer than what came in: it says more and counts as full. Else prove '..UptoSaid'. A law counts once. -/
mutual
def uptoBulk {H : Type} : DataW H → Nat
  | .lit (.string bytes) => bytes.length + 1
  | .lit _ => 1
  | .nil => 1
  | .ptr d => uptoBulk d + 1
  | .slice elems spare => uptoBulkAll elems + uptoBulkAll spare + 1
  | .agg parts => uptoBulkAll parts + 1
  | .iface _ d => uptoBulk d + 1
  | .map entries => uptoBulkEntries entries + 1
  | .held _ => 1
def uptoBulkAll {H : Type} : List (DataW H) → Nat
  | [] => 0
  | d :: r => uptoBulk d + uptoBulkAll r
def uptoBulkEntries {H : Type} : List (Lit × DataW H) → Nat
  | [] => 0
  | x :: r => uptoBulkEntry x + uptoBulkEntries r
def uptoBulkEntry {H : Type} : Lit × DataW H → Nat
  | (.string bytes, d) => bytes.length + uptoBulk d + 1
  | (_, d) => uptoBulk d + 1
 end
def uptoSmall : (H : Type) → List (DataW H) → Bool := fun _ ds => decide (uptoBulkAll ds ≤ 1048576)
def OpenSpec.upto (s : _root_.Go.ChangeSpec) : _root_.Go.OpenSpec := { _root_.Go.OpenSpec.ofChange s with cond := some uptoSmall }

/-- 'ferrulelaw22.InsnDecodes', WHERE WHAT IT READS IS OF BULK AT MOST 1048576: true; the input reads as it did. -/
def insnDecodesUptoRow : OpenClaim := { program := "ytloihfdiabbcpaa", sum := "01f4d5b6db24cf26848a236f387e1aea5750df0fe0861f000321ed3e702e3e53", func := "ferrule/ferrulelaw22.InsnDecodes", spec := "insnDecodes", apart := false, narrowed := true }
def InsnDecodesUptoSaid : Prop := insnDecodesUptoRow.holds Try.pinned (OpenSpec.upto insnDecodesSpec)

/-- 'ferrulelaw22.InsnEncodes', WHERE WHAT IT READS IS OF BULK AT MOST 1048576: true; the input reads as it did. -/
def insnEncodesUptoRow : OpenClaim := { program := "ytloihfdiabbcpaa", sum := "01f4d5b6db24cf26848a236f387e1aea5750df0fe0861f000321ed3e702e3e53", func := "ferrule/ferrulelaw22.InsnEncodes", spec := "insnEncodes", apart := false, narrowed := true }
def InsnEncodesUptoSaid : Prop := insnEncodesUptoRow.holds Try.pinned (OpenSpec.upto insnEncodesSpec)

/-- 'ferrulelaw22.InsnApart', WHERE WHAT IT READS IS OF BULK AT MOST 1048576: true; the input reads as it did. -/
def insnApartUptoRow : OpenClaim := { program := "ytloihfdiabbcpaa", sum := "01f4d5b6db24cf26848a236f387e1aea5750df0fe0861f000321ed3e702e3e53", func := "ferrule/ferrulelaw22.InsnApart", spec := "insnApart", apart := false, narrowed := true }
def InsnApartUptoSaid : Prop := insnApartUptoRow.holds Try.pinned (OpenSpec.upto insnApartSpec)

/-- 'ferrulelaw22.InsnFields', WHERE WHAT IT READS IS OF BULK AT MOST 1048576: true; the input reads as it did. -/
def insnFieldsUptoRow : OpenClaim := { program := "ytloihfdiabbcpaa", sum := "01f4d5b6db24cf26848a236f387e1aea5750df0fe0861f000321ed3e702e3e53", func := "ferrule/ferrulelaw22.InsnFields", spec := "insnFields", apart := false, narrowed := true }
def InsnFieldsUptoSaid : Prop := insnFieldsUptoRow.holds Try.pinned (OpenSpec.upto insnFieldsSpec)

/-- 'ferrulelaw22.InsnBits', WHERE WHAT IT READS IS OF BULK AT MOST 1048576: true; the input reads as it did. -/
def insnBitsUptoRow : OpenClaim := { program := "ytloihfdiabbcpaa", sum := "01f4d5b6db24cf26848a236f387e1aea5750df0fe0861f000321ed3e702e3e53", func := "ferrule/ferrulelaw22.InsnBits", spec := "insnBits", apart := false, narrowed := true }
def InsnBitsUptoSaid : Prop := insnBitsUptoRow.holds Try.pinned (OpenSpec.upto insnBitsSpec)

/-- 'ferrulelaw22.InsnBack', WHERE WHAT IT READS IS OF BULK AT MOST 1048576: true; the input reads as it did. -/
def insnBackUptoRow : OpenClaim := { program := "ytloihfdiabbcpaa", sum := "01f4d5b6db24cf26848a236f387e1aea5750df0fe0861f000321ed3e702e3e53", func := "ferrule/ferrulelaw22.InsnBack", spec := "insnBack", apart := false, narrowed := true }
def InsnBackUptoSaid : Prop := insnBackUptoRow.holds Try.pinned (OpenSpec.upto insnBackSpec)

end Rows
end Go.Proofs.Ytloihfdiabbcpaa
