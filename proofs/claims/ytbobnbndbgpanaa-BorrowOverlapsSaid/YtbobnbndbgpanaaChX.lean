/- BorrowOverlaps: the walk, of whatever came in. -/
import Derived.Test.YtbobnbndbgpanaaChL
namespace Go.Proofs.Ytbobnbndbgpanaa.W
open Go Go.RowKit Go.Proofs Go.ChangeShapes Go.WideShapes Go.ChangeAt Go.Deep
theorem open_tree {H : Type} {enc : TypeId × Value → H} {W : World} {base : Nat} {v : Value} {d : DataW H} {ps : List MemPlace} (hv : Value.okWide Try.prog W .any base 27 v) (h : DataW.Trod enc Try.prog W 0 (fun _ => true) true 27 v d ps) :
    ∃ cs l, v = .agg cs ∧ Ch W cs.toList l := by
  obtain ⟨cs, rfl, hsz⟩ := okWide_struct Try.underlying27 hv
  obtain ⟨fu, hf0⟩ := h
  rw [cells27] at hsz
  obtain ⟨l, hl⟩ := chain_of fu cs.toList _ (by simpa using hsz) hf0
  exact ⟨cs, l, rfl, hl⟩
theorem overlaps_walk {H : Type} {enc : TypeId × Value → H} {W' : World} {base : Nat} {d0 d1 : DataW H} {p0 p1 : List MemPlace} (v0 : Value) (hv0 : Value.okWide Try.prog W' .any base 27 v0) (h0 : DataW.Trod enc Try.prog W' 0 (fun _ => true) true 27 v0 d0 p0)
    (v1 : Value) (hv1 : Value.okWide Try.prog W' .any base 27 v1) (h1 : DataW.Trod enc Try.prog W' 0 (fun _ => true) true 27 v1 d1 p1) (W : World) (e : W = W') :
    Calls Try.prog 3 #[v0, v1] W fun e w' => e = .returned (.bool true) ∧ Below W.heap.size W w' := by
  subst e
  obtain ⟨ca, la, rfl, ha⟩ := open_tree hv0 h0
  obtain ⟨cb, lb, rfl, hb⟩ := open_tree hv1 h1
  exact overlaps_core W ca.toList cb.toList la lb ha hb
end Go.Proofs.Ytbobnbndbgpanaa.W
