/- amount.with; an item that is looked for. -/
import Derived.Test.YtioediibbgklcaaTyA
import Derived.Lib.Hide
import Derived.RegionTactic
import Derived.Deep.LoopGhost
import Derived.Deep.DeepCutAuto
import Derived.Deep.QuietTactic
import Derived.BigQuiet
import Derived.WalkSmall
namespace Go.Proofs.Ytioediibbgklcaa.W
open Go Go.RowKit Go.Proofs
set_option linter.unusedVariables false
set_option linter.unusedSimpArgs false
theorem wr64 (x : Int) : wrap64 x = IntKind.i64.wrap x := (IntWalk.i64_left x).symm
set_option maxHeartbeats 4000000 in
set_option maxRecDepth 100000 in
theorem with_calls (W : World) (p1 w1 p2 w2 : Int) (m1 m2 : Bool) :
    Calls Try.prog 39 #[.agg #[.int .i64 p1, .int .i64 w1, .bool m1], .agg #[.int .i64 p2, .int .i64 w2, .bool m2]] W fun e w' => e = .returned (.agg #[.int .i64 (wrap64 (p1 + p2)), .int .i64 (wrap64 (w1 + w2)), .bool (m1 || m2)]) ∧ Below W.heap.size W w' := by
  go_enter Try.func39, Try.ntmps39
  cases m1 with
  | true =>
    go_wp2
    exact bodyPost_ret (v := .agg #[.int .i64 (wrap64 (p1 + p2)), .int .i64 (wrap64 (w1 + w2)), .bool true]) (by simp [results, Try.results39, go_sem]) rfl ⟨rfl, (((Below.refl _ W).alloc (Nat.le_refl _) _).alloc (by simp) _).alloc (by simp; omega) _⟩
  | false =>
    go_wp2
    exact bodyPost_ret (v := .agg #[.int .i64 (wrap64 (p1 + p2)), .int .i64 (wrap64 (w1 + w2)), .bool m2]) (by simp [results, Try.results39, go_sem]) rfl ⟨rfl, (((Below.refl _ W).alloc (Nat.le_refl _) _).alloc (by simp) _).alloc (by simp; omega) _⟩
set_option maxHeartbeats 4000000 in
set_option maxRecDepth 100000 in
theorem itemp_calls (W : World) (kd : Int) (nm : ByteArray) (pa : Option Addr) (pn pc : Nat) (va : Option Addr) (vn vc : Nat) (t : Tl) (tb : Nat) (tn : ByteArray) (htb : tb < W.heap.size) (ht : W.cell? ⟨tb, 1, none⟩ = some (.string tn)) :
    Calls Try.prog 35 #[.agg #[.int .i64 kd, .string nm, .int .i64 t.x2, .slice pa pn pc, .slice va vn vc, .int .i64 t.x5, .string t.s6, .int .i64 t.x7, .slice t.a8 t.n8 t.k8, .int .i64 t.x9, .int .i64 t.x10, .int .i64 t.x11, .int .i64 t.x12, .string t.s13, .slice t.a14 t.n14 t.k14, .slice t.a15 t.n15 t.k15, .int .i64 t.x16, .string t.s17, .int .i64 t.x18, .slice t.a19 t.n19 t.k19], .pointer (some ⟨tb, 0, none⟩)] W fun e w' => e = .returned (.bool ((kd == 2 || kd == 3) && nm.toList == tn.toList)) ∧ Below W.heap.size W w' := by
  go_enter Try.func35, Try.ntmps35
  by_cases h1 : kd = 2
  · go_wp2
    exact bodyPost_ret (v := .bool (nm.toList == tn.toList)) (by simp [results, Try.results35, go_sem]) rfl ⟨by simp [h1], (Below.refl _ W).alloc (Nat.le_refl _) _⟩
  · by_cases h2 : kd = 3
    · go_wp2
      exact bodyPost_ret (v := .bool (nm.toList == tn.toList)) (by simp [results, Try.results35, go_sem]) rfl ⟨by simp [h2], (Below.refl _ W).alloc (Nat.le_refl _) _⟩
    · go_wp2
      exact bodyPost_ret (v := .bool false) (by simp [results, Try.results35, go_sem]) rfl ⟨by simp [h1, h2], (Below.refl _ W).alloc (Nat.le_refl _) _⟩
/-- An item's cells as one. -/
structure ItV (A : Array Value) (it : It) : Prop where
  ex : ∃ pa pc va vc t, A = (itCells it.kind it.name pa it.ps.length pc va it.vs.length vc t).toArray
def named? (tn : ByteArray) (it : It) : Bool := (it.kind == 2 || it.kind == 3) && it.name.toList == tn.toList
theorem itemp_any (W : World) (A : Array Value) (it : It) (hA : ItV A it) (tb : Nat) (tn : ByteArray) (htb : tb < W.heap.size) (ht : W.cell? ⟨tb, 1, none⟩ = some (.string tn)) :
    Calls Try.prog 35 #[.agg A, .pointer (some ⟨tb, 0, none⟩)] W fun e w' => e = .returned (.bool (named? tn it)) ∧ Below W.heap.size W w' := by
  obtain ⟨pa, pc, va, vc, t, rfl⟩ := hA.ex
  exact itemp_calls W it.kind it.name pa _ pc va _ vc t tb tn htb ht
theorem run_row {W : World} (b o k : Nat) (cs : List Value) (hk : cs.length = k) (h : ∀ j, j < k → W.cell? ⟨b, o + j, none⟩ = cs[j]?) : Sem.run Try.prog (loadCellsFrom ⟨b, o, none⟩ 0 k #[]) W = .ok cs.toArray W := by
  have := run_loadCells_list (P := Try.prog) (w := W) ⟨b, o, none⟩ cs (fun j v hv => by
    have hj : j < k := by rw [← hk]; exact (List.getElem?_eq_some_iff.1 hv).1
    rw [Addr.add_lit, h j hj, hv])
  rw [hk] at this
  simpa [loadCells] using this
end Go.Proofs.Ytioediibbgklcaa.W
