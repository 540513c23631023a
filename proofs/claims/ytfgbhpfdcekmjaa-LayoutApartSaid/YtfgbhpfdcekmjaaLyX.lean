/- LayoutApart: the walk, of whatever came in. -/
import Derived.Test.YtfgbhpfdcekmjaaLyW
import Derived.Test.YtfgbhpfdcekmjaaLyO
namespace Go.Proofs.Ytfgbhpfdcekmjaa.W
open Go Go.RowKit Go.Proofs
theorem apart_walk {H : Type} {enc : TypeId × Value → H} {W' : World} {base : Nat} {d0 : DataW H} {p0 : List MemPlace} (v0 : Value) (hv0 : Value.okWide Try.prog W' .any base 30 v0) (h0 : DataW.Trod enc Try.prog W' 0 (fun _ => true) true 30 v0 d0 p0) (a : Int) {p : Prop} (_ : p) (W : World) (e : W = W') :
    Calls Try.prog 4 #[v0, .int .i64 a] W fun e w' => e = .returned (.bool true) ∧ Below W.heap.size W w' := by
  subst e
  obtain ⟨v0, v2, v3, v4, la, n, lc, lf, ba, bn, bc, rfl, q1, q2, q3, q4⟩ := open_mir hv0 h0
  exact apart_core v0 v2 v3 v4 la n lc lf ba bn bc a W q1 q2 q3 q4
end Go.Proofs.Ytfgbhpfdcekmjaa.W
