/- The places of an instruction; where a local lies. -/
import Derived.Test.YtfgbhpfdcekmjaaProg
import Derived.WalkKit
import Derived.Below
import Derived.Lib.Hide
import Derived.LoopTactic
import Derived.RegionTactic
import Derived.BigRegion
import Derived.Deep.QuietTactic
import Derived.BigQuiet
import Derived.Laws.AppendOwn
import Derived.Laws.OwnMore
namespace Go.Proofs.Ytfgbhpfdcekmjaa.W
open Go Go.RowKit Go.Proofs
set_option linter.unusedVariables false
set_option linter.unusedSimpArgs false
theorem bcell {W w1 : World} (hb : Below W.heap.size W w1) : (∀ b o, b < W.heap.size → w1.cell? ⟨b, o, none⟩ = W.cell? ⟨b, o, none⟩) ∧ (∀ b o, b < W.heap.size → w1.frozen? ⟨b, o, none⟩ = W.frozen? ⟨b, o, none⟩) :=
  ⟨fun b o h => hb.cell h, fun b o h => hb.frozen h⟩
/-- What places answers: so many pointers, each to the instruction's first or second place. -/
def PlacesTo (W : World) (b o : Nat) (e : Ending) (w' : World) : Prop :=
  ∃ go m mc, e = .returned (.slice go m mc) ∧ m ≤ 2 ∧ Below W.heap.size W w' ∧ ∀ j, j < m → ∃ g q, go = some ⟨g, 0, none⟩ ∧ (q = o + 6 ∨ q = o + 8) ∧ w'.cell? ⟨g, j, none⟩ = some (.pointer (some ⟨b, q, none⟩)) ∧ W.heap.size ≤ g
theorem places_none (W : World) (b o : Nat) : PlacesTo W b o (.returned (.slice none 0 0)) W := ⟨none, 0, 0, rfl, by omega, Below.refl _ _, fun j hj => by omega⟩
theorem places_one (W : World) (b o : Nat) : PlacesTo W b o (.returned (.slice (some ⟨W.heap.size, 0, none⟩) 1 1)) (W.alloc (.cells #[.pointer (some ⟨b, o + 6, none⟩)] 57)) :=
  ⟨_, 1, 1, rfl, by omega, (Below.refl _ _).alloc (Nat.le_refl _) _, fun j hj => ⟨_, o + 6, rfl, .inl rfl, by
    obtain rfl : j = 0 := by omega
    rw [cell_of_row _ W.heap.size 0 _ 57 (0, 0) (heap_alloc_new W _)]; simp, Nat.le_refl _⟩⟩
theorem places_two (W : World) (b o : Nat) : PlacesTo W b o (.returned (.slice (some ⟨W.heap.size, 0, none⟩) 2 2)) (W.alloc (.cells #[.pointer (some ⟨b, o + 6, none⟩), .pointer (some ⟨b, o + 8, none⟩)] 57)).drew :=
  ⟨_, 2, 2, rfl, by omega, ((Below.refl _ _).alloc (Nat.le_refl _) _).drew, fun j hj => by
    match j, hj with
    | 0, _ => exact ⟨_, o + 6, rfl, .inl rfl, by
        show (W.alloc _).cell? _ = _
        rw [cell_of_row _ W.heap.size 0 _ 57 (0, 0) (heap_alloc_new W _)]; simp, Nat.le_refl _⟩
    | 1, _ => exact ⟨_, o + 8, rfl, .inr rfl, by
        show (W.alloc _).cell? _ = _
        rw [cell_of_row _ W.heap.size 1 _ 57 (0, 0) (heap_alloc_new W _)]; simp, Nat.le_refl _⟩⟩
theorem places_calls (b o : Nat) (op : Int) (W : World) (h : W.cell? ⟨b, o, none⟩ = some (.int .i64 op)) :
    Calls Try.prog 10 #[.pointer (some ⟨b, o, none⟩)] W (PlacesTo W b o) := by
  have one : ∀ X : Obj, Below W.heap.size W (W.alloc X) := fun X => (Below.refl _ _).alloc (Nat.le_refl _) _
  by_cases h5 : op = 5
  · subst h5
    go_enter Try.func10, Try.ntmps10
    go_wp2
    go_region
    all_goals
      go_wp2
      go_ret
      exact places_two W b o
  · have e5 : (op == 5) = false := by simpa using h5
    cases e3 : (op == 3) <;> cases e4 : (op == 4) <;> cases e6 : (op == 6) <;> cases e9 : (op == 9) <;>
    (go_enter Try.func10, Try.ntmps10
     go_wp2
     go_ret
     first | exact places_one W b o | exact places_none W b o)
/-- The closure of Layout: a plain local lies nowhere, any other one behind those ahead of it. -/
theorem place_plain (k : Nat) (pb wb fb g lb lo n lc : Nat) (v0 v2 v3 v4 v5 : Value) (W : World) (hk : k < n) (hp : W.cell? ⟨pb, 0, none⟩ = some (.slice (some ⟨g, 0, none⟩) n n)) (hg : W.cell? ⟨g, k, none⟩ = some (.bool true)) :
    Calls Try.prog 9 #[.int .i64 k, .pointer (some ⟨pb, 0, none⟩), .pointer (some ⟨wb, 0, none⟩), .pointer (some ⟨fb, 0, none⟩)] W fun e w' => e = .returned (.int .i64 (-1)) ∧ w' = W := by
  go_enter Try.func9, Try.ntmps9
  go_wp2
  go_ret
  exact ⟨rfl, rfl⟩
theorem place_own (k : Nat) (pb wb fb g n lc : Nat) (la : Addr) (lb lo : Nat) (x z : Int) (W : World) (hk : k < n) (hp : W.cell? ⟨pb, 0, none⟩ = some (.slice (some ⟨g, 0, none⟩) n n)) (hg : W.cell? ⟨g, k, none⟩ = some (.bool false))
    (hw : W.cell? ⟨wb, 0, none⟩ = some (.int .i64 x)) (hwf : W.frozen? ⟨wb, 0, none⟩ = false) (hf : W.cell? ⟨fb, 1, none⟩ = some (.slice (some ⟨lb, lo, none⟩) n lc)) (hz : W.cell? ⟨lb, lo + k, none⟩ = some (.int .i64 z)) (hx : 0 ≤ x ∧ x ≤ 107374182400) (hzz : z ≤ 1073741824) :
    Calls Try.prog 9 #[.int .i64 k, .pointer (some ⟨pb, 0, none⟩), .pointer (some ⟨wb, 0, none⟩), .pointer (some ⟨fb, 0, none⟩)] W fun e w' => e = .returned (.int .i64 x) ∧ w' = (W.setCell ⟨wb, 0, none⟩ (.int .i64 (x + max z 0))).drew := by
  rcases Int.lt_or_le z 0 with h | h
  · rw [Int.max_eq_right (by omega)]
    go_enter Try.func9, Try.ntmps9
    go_wp2
    go_region
    all_goals
      go_wp2
      go_ret
      exact ⟨rfl, by simp⟩
  · rw [Int.max_eq_left h]
    go_enter Try.func9, Try.ntmps9
    go_wp2
    go_region
    all_goals
      go_wp2
      go_ret
      exact ⟨rfl, rfl⟩
end Go.Proofs.Ytfgbhpfdcekmjaa.W
