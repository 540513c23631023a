/- TypesAdd: what came in, opened. -/
import Derived.Test.YtioediibbgklcaaTyAd
namespace Go.Proofs.Ytioediibbgklcaa.W
open Go Go.RowKit Go.Proofs Go.ChangeShapes Go.WideShapes Go.ChangeAt Go.Deep
set_option linter.unusedVariables false
theorem add_open {H : Type} {enc : TypeId × Value → H} {base : Nat} {W : World} {d0 d1 : DataW H} {p0 p1 : List MemPlace} (v0 : Value) (hv0 : Value.okWide Try.prog W .any base 22 v0) (h0 : DataW.Trod enc Try.prog W 0 (fun _ => true) true 22 v0 d0 p0) (v1 : Value) (hv1 : Value.okWide Try.prog W .any base 26 v1) (h1 : DataW.Trod enc Try.prog W 0 (fun _ => true) true 26 v1 d1 p1) (a2 : Int) (hl : Light 22 d0) :
    Calls Try.prog 4 #[v0, v1, .int .i64 a2] W fun e w' => e = .returned (.bool true) ∧ Below W.heap.size W w' := by
  obtain ⟨la, lc, its, rfl, hn, hI, hS⟩ := open_items_w hv0 h0 hl
  obtain ⟨t, ea, ec, rfl, hT⟩ := open_type hv1 h1
  exact typesadd_walk W la its lc hn hI hS t ea ec hT a2
end Go.Proofs.Ytioediibbgklcaa.W
