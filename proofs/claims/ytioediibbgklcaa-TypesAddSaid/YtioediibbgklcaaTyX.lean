/- TypesEnums: the walk, of whatever came in. -/
import Derived.Test.YtioediibbgklcaaTyQ
import Derived.ProofKit
import Derived.OpenShut
import Derived.ChangeSlices
import Derived.Deep.Slices
namespace Go.Proofs.Ytioediibbgklcaa.W
open Go Go.RowKit Go.Proofs Go.ChangeShapes Go.WideShapes Go.ChangeAt Go.Deep
set_option linter.unusedVariables false
theorem cells3 : Try.prog.cellsOf 3 = 1 := by kernel_rfl
theorem open_nums {H : Type} {enc : TypeId × Value → H} {W : World} {base : Nat} {v : Value} {d : DataW H} {ps : List MemPlace} (hv : Value.okWide Try.prog W .any base 46 v) (h : DataW.Trod enc Try.prog W 0 (fun _ => true) true 46 v d ps) :
    ∃ ao n c f, v = .slice ao n c ∧ Nums W ao n f := by
  obtain ⟨ao, n, c, rfl⟩ := okWide_slice Try.underlying46 hv
  obtain ⟨fu, hf⟩ := h
  rcases open_ints Try.underlying46 Try.underlying3 cells3 hf with ⟨hcs, hx⟩ | ⟨a, len', cap', zs, hcs, _, hl, hmx, hz, hx, hcell, hwz⟩
  · simp [Value.cells] at hcs
    obtain ⟨rfl, rfl, rfl⟩ := hcs
    exact ⟨none, 0, 0, fun _ => 0, rfl, ⟨by omega, fun h => absurd h (by omega)⟩⟩
  · simp [Value.cells] at hcs
    obtain ⟨rfl, rfl, rfl⟩ := hcs
    simp only [if_true] at hz
    refine ⟨some a, n, c, fun j => zs.getD j 0, rfl, ⟨by unfold maxLen at hmx; omega, fun hn => ?_⟩⟩
    obtain ⟨xb, xo, spot⟩ := a
    have hspot : spot = none := by simpa [Addr.add] using World.cell?_spot (hcell 0 (by omega))
    subst hspot
    refine ⟨xb, xo, rfl, fun j hj => ?_⟩
    have := hcell j (by omega)
    rw [Addr.add_lit] at this
    exact this
theorem enums_open {H : Type} {enc : TypeId × Value → H} {W' : World} {base : Nat} {d0 d1 : DataW H} {p0 p1 : List MemPlace} (v0 : Value) (hv0 : Value.okWide Try.prog W' .any base 46 v0) (h0 : DataW.Trod enc Try.prog W' 0 (fun _ => true) true 46 v0 d0 p0)
    (v1 : Value) (hv1 : Value.okWide Try.prog W' .any base 46 v1) (h1 : DataW.Trod enc Try.prog W' 0 (fun _ => true) true 46 v1 d1 p1) (W : World) (e : W = W') :
    Calls Try.prog 5 #[v0, v1] W fun e w' => e = .returned (.bool true) ∧ Below W.heap.size W w' := by
  subst e
  obtain ⟨ka, kn, kc, kf, rfl, hk⟩ := open_nums hv0 h0
  obtain ⟨sa, sn, sc, sf, rfl, hs⟩ := open_nums hv1 h1
  exact enums_walk W ka kn kc kf hk sa sn sc sf hs
end Go.Proofs.Ytioediibbgklcaa.W
