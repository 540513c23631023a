/- slices.Reverse of a row of pairs of one's own. -/
import Derived.Test.YtbobnbndbgpanaaChP
import Derived.Laws.AppendOwn
import Derived.Deep.RegionLawGrows
namespace Go.Proofs.Ytbobnbndbgpanaa.W
open Go Go.RowKit Go.Proofs
set_option linter.unusedVariables false
set_option linter.unusedSimpArgs false
/-- Pairs, as a row's cells. -/
def flat : List (Int × Int) → List Value
  | [] => []
  | p :: l => .int .i64 p.1 :: .int .i64 p.2 :: flat l
theorem flat_len : ∀ l, (flat l).length = l.length * 2
  | [] => rfl
  | p :: l => by simp [flat, flat_len l]; omega
theorem flat_append : ∀ l m, flat (l ++ m) = flat l ++ flat m
  | [], m => rfl
  | p :: l, m => by simp [flat, flat_append l m]
theorem flat_one : ∀ l, ∀ u ∈ flat l, u.oneCell' = true
  | [], u, h => by simp [flat] at h
  | p :: l, u, h => by
    simp only [flat, List.mem_cons] at h
    rcases h with rfl | rfl | h
    · rfl
    · rfl
    · exact flat_one l u h
theorem flat_get : ∀ (l : List (Int × Int)) (i : Nat) (p : Int × Int), l[i]? = some p → (flat l)[i * 2]? = some (.int .i64 p.1) ∧ (flat l)[i * 2 + 1]? = some (.int .i64 p.2)
  | [], i, p, h => by simp at h
  | q :: l, 0, p, h => by simp at h; subst h; simp [flat]
  | q :: l, i + 1, p, h => by
    have := flat_get l i p (by simpa using h)
    have e : (i + 1) * 2 = i * 2 + 1 + 1 := by omega
    rw [e]
    simpa [flat] using this
theorem flat_set : ∀ (l : List (Int × Int)) (i : Nat) (p : Int × Int), ((flat l).set (i * 2) (.int .i64 p.1)).set (i * 2 + 1) (.int .i64 p.2) = flat (l.set i p)
  | [], i, p => by simp [flat]
  | q :: l, 0, p => by simp [flat]
  | q :: l, i + 1, p => by
    have e : (i + 1) * 2 = i * 2 + 1 + 1 := by omega
    rw [e]
    have := flat_set l i p
    simp [flat, this]
theorem own_cell {W : World} {B e n g cap : Nat} {xs : List Value} (h : W.ownsRow B e 2 (.slice (some ⟨g, 0, none⟩) n cap) n xs) {i : Nat} {u : Value} (hu : xs[i]? = some u) : W.cell? ⟨g, i, none⟩ = some u ∧ W.frozen? ⟨g, i, none⟩ = false := by
  obtain ⟨h1, h2⟩ := h
  rcases h2 with ⟨h2, _⟩ | ⟨g', cap', cur, a1, a2, a3, a4, a5, a6, a7⟩
  · simp at h2
  · injection a1 with b1 b2 b3
    injection b1 with b1
    injection b1 with b1
    subst b1
    refine ⟨?_, frozen_of_row _ _ i _ e a3⟩
    rw [cell_of_row _ _ _ _ e (0, 0) a3, ← Array.getElem?_toList]
    rw [← a7, List.getElem?_take] at hu
    split at hu
    · exact hu
    · simp at hu
theorem own_put {W : World} {B e n g cap : Nat} {xs : List Value} (h : W.ownsRow B e 2 (.slice (some ⟨g, 0, none⟩) n cap) n xs) (i : Nat) (u : Value) (hi : i < xs.length) : (W.setCell ⟨g, i, none⟩ u).ownsRow B e 2 (.slice (some ⟨g, 0, none⟩) n cap) n (xs.set i u) := by
  obtain ⟨h1, h2⟩ := h
  refine ⟨by simpa using h1, ?_⟩
  rcases h2 with ⟨h2, _⟩ | ⟨g', cap', cur, a1, a2, a3, a4, a5, a6, a7⟩
  · simp at h2
  · injection a1 with b1 b2 b3
    injection b1 with b1
    injection b1 with b1
    subst b1
    subst b3
    refine .inr ⟨g, cap, cur.setIfInBounds i u, rfl, a2, ?_, a4, a5, by simpa using a6, ?_⟩
    · exact heap_setCell_same _ g i _ e u a3
    · rw [← a7]; simp [List.take_set]
theorem grown_put {W0 W : World} {g i : Nat} {u : Value} (h : W0.grownBy W (some g)) : W0.grownBy (W.setCell ⟨g, i, none⟩ u) (some g) := by
  refine ⟨h.os, h.tape, h.output, by simpa [World.setCell] using h.size, fun k hk hne => ?_⟩
  rw [Below.heap_setCell _ _ _ _ (by rintro rfl; exact hne rfl)]
  exact h.block k hk hne
/-- After so many rounds. -/
def Turned (k : Nat) (l m : List (Int × Int)) : Prop := m.length = l.length ∧ ∀ i, i < l.length → m[i]? = if i < k ∨ l.length ≤ i + k then l[l.length - 1 - i]? else l[i]?
theorem Turned.zero (l) : Turned 0 l l := ⟨rfl, fun i hi => by rw [if_neg (by omega)]⟩
theorem Turned.done {k : Nat} {l m : List (Int × Int)} (h : Turned k l m) (hk : l.length ≤ 2 * k + 1) : m = l.reverse := by
  apply List.ext_getElem?
  intro i
  by_cases hi : i < l.length
  · rw [h.2 i hi, List.getElem?_reverse hi]
    split
    · rfl
    · congr 1; omega
  · rw [List.getElem?_eq_none (by rw [h.1]; omega), List.getElem?_eq_none (by simp; omega)]
theorem Turned.next {k : Nat} {l m : List (Int × Int)} (h : Turned k l m) (hk : 2 * k + 1 < l.length) {p q : Int × Int} (hp : m[k]? = some p) (hq : m[l.length - 1 - k]? = some q) : Turned (k + 1) l ((m.set k q).set (l.length - 1 - k) p) := by
  refine ⟨by simpa using h.1, fun i hi => ?_⟩
  have e1 := h.2 k (by omega)
  have e2 := h.2 (l.length - 1 - k) (by omega)
  rw [if_neg (by omega)] at e1 e2
  have e3 := h.2 i hi
  rw [List.getElem?_set, List.getElem?_set]
  by_cases c1 : l.length - 1 - k = i
  · rw [if_pos c1, if_pos (by simp [h.1]; omega), if_pos (by omega), ← hp, e1]
    congr 1; omega
  · rw [if_neg c1]
    by_cases c2 : k = i
    · subst c2
      rw [if_pos rfl, if_pos (by rw [h.1]; omega), if_pos (by omega), ← hq, e2]
    · rw [if_neg c2, e3]
      by_cases c3 : i < k ∨ l.length ≤ i + k
      · rw [if_pos c3, if_pos (by omega)]
      · rw [if_neg c3, if_neg (by omega)]
set_option maxHeartbeats 4000000 in
set_option maxRecDepth 100000 in
theorem reverse_calls (W : World) (B g n cap : Nat) (l : List (Int × Int)) (hl : l.length = n) (hn : n ≤ 300) (hown : W.ownsRow B 34 2 (.slice (some ⟨g, 0, none⟩) n cap) n (flat l)) :
    Calls Try.prog 9 #[.slice (some ⟨g, 0, none⟩) n cap] W fun e w' => e = .returned (.tuple #[]) ∧ w'.ownsRow B 34 2 (.slice (some ⟨g, 0, none⟩) n cap) n (flat l.reverse) ∧ W.grownBy w' (some g) := by
  go_enter Try.func9, Try.ntmps9
  go_wp2
  go_loopw [2, 3] (fun i j wr => ∃ (k : Nat) (m : List (Int × Int)), k ≤ n ∧ i = .int .i64 k ∧ j = .int .i64 ((n : Int) - 1 - k) ∧ Turned k l m ∧ wr.ownsRow B 34 2 (.slice (some ⟨g, 0, none⟩) n cap) n (flat m) ∧ W.grownBy wr (some g)) (fun i _ _ => n - (intOf i).toNat)
  case atStart => exact ⟨0, l, Nat.zero_le _, rfl, by go_num, Turned.zero l, hown, ⟨rfl, rfl, rfl, Nat.le_refl _, fun _ _ _ => rfl⟩⟩
  case round =>
    clear hown
    obtain ⟨k, m, hk, rfl, rfl, hT, hO, hG⟩ := hrel
    by_cases hlt : 2 * k + 1 < n
    · have hml : m.length = n := hT.1.trans hl
      obtain ⟨p, hp⟩ : ∃ p, m[k]? = some p := ⟨_, List.getElem?_eq_getElem (by omega)⟩
      obtain ⟨q, hq⟩ : ∃ q, m[n - 1 - k]? = some q := ⟨_, List.getElem?_eq_getElem (by omega)⟩
      obtain ⟨p1, p2⟩ := flat_get m k p hp
      obtain ⟨q1, q2⟩ := flat_get m (n - 1 - k) q hq
      obtain ⟨c1, f1⟩ := own_cell hO p1
      obtain ⟨c2, f2⟩ := own_cell hO p2
      obtain ⟨c3, f3⟩ := own_cell hO q1
      obtain ⟨c4, f4⟩ := own_cell hO q2
      obtain ⟨j, hj⟩ : ∃ j, n - 1 - k = j := ⟨_, rfl⟩
      have ej : (n : Int) - 1 - k = j := by omega
      rw [hj] at c3 c4 f3 f4 hq
      rw [ej]
      go_wp2
      go_region
      go_wp2
      go_roundw
      case rel =>
        refine ⟨k + 1, (m.set k q).set j p, by omega, by go_num, by go_num, ?_, ?_, ?_⟩
        · rw [← hj]
          subst hl
          exact hT.next hlt hp (by rw [hj]; exact hq)
        · have e := own_put (own_put (own_put (own_put hO (k * 2) (.int .i64 q.1) (by rw [flat_len]; omega)) (k * 2 + 1) (.int .i64 q.2) (by simp [flat_len]; omega)) (j * 2) (.int .i64 p.1) (by simp [flat_len]; omega)) (j * 2 + 1) (.int .i64 p.2) (by simp [flat_len]; omega)
          rw [flat_set, flat_set] at e
          exact e
        · have e : W.grownBy ((((wr.setCell ⟨g, k * 2, none⟩ (.int .i64 q.1)).setCell ⟨g, k * 2 + 1, none⟩ (.int .i64 q.2)).setCell ⟨g, j * 2, none⟩ (.int .i64 p.1)).setCell ⟨g, j * 2 + 1, none⟩ (.int .i64 p.2)) (some g) := grown_put (grown_put (grown_put (grown_put hG)))
          exact ⟨e.os, e.tape, e.output, e.size, e.block⟩
      case measure => simp [intOf]; omega
    · go_wp2
      have e := hT.done (by omega)
      subst e
      refine bodyPost_end (results_none rfl _ _ _) rfl ⟨rfl, hO, hG⟩
set_option maxHeartbeats 4000000 in
set_option maxRecDepth 100000 in
theorem reverse_nil (W : World) : Calls Try.prog 9 #[.slice none 0 0] W fun e w' => e = .returned (.tuple #[]) ∧ Below W.heap.size W w' := by
  go_enter Try.func9, Try.ntmps9
  go_wp2
  go_loopw [2, 3] (fun i j wr => i = .int .i64 0 ∧ j = .int .i64 (-1) ∧ W = wr) (fun i _ _ => 0)
  case atStart => exact ⟨rfl, by go_num, rfl⟩
  case round =>
    obtain ⟨rfl, rfl, rfl⟩ := hrel
    go_wp2
    refine bodyPost_end (results_none rfl _ _ _) rfl ⟨rfl, Below.refl _ _⟩
end Go.Proofs.Ytbobnbndbgpanaa.W
