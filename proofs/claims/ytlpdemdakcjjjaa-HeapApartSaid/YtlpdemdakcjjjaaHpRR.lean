/- The document's heap: find, Live, Within, place. -/
import Derived.Test.YtlpdemdakcjjjaaHpC
import Derived.Outline
namespace Go.Proofs.Ytlpdemdakcjjjaa.W
open Go Go.RowKit Go.Proofs Go.Proofs.Ytlpdemdakcjjjaa.Sx
set_option linter.unusedVariables false
set_option linter.unusedSimpArgs false
/-- The document's heap in memory: `n` rows of an address, a class, words. -/
structure Rows3 (W : World) (rb : Nat) (v : Value) (n : Nat) (av kv wv : Nat → Int) : Prop where
  head : W.cell? ⟨rb, 0, none⟩ = some v
  low : n < 100000
  shape : (v = .slice none 0 0 ∧ n = 0) ∨ ∃ g cap, v = .slice (some ⟨g, 0, none⟩) n cap ∧ ∀ j, j < n → W.cell? ⟨g, j * 3, none⟩ = some (.int .i64 (av j)) ∧ W.cell? ⟨g, j * 3 + 1, none⟩ = some (.int .i64 (kv j)) ∧ W.cell? ⟨g, j * 3 + 2, none⟩ = some (.int .i64 (wv j))
/-- The first row of an address. -/
def FirstAt (n : Nat) (av : Nat → Int) (a r : Int) : Prop := (∃ j : Nat, j < n ∧ av j = a ∧ (∀ i, i < j → av i ≠ a) ∧ r = j) ∨ ((∀ j, j < n → av j ≠ a) ∧ r = -1)
set_option maxRecDepth 100000 in
theorem rfind (rb : Nat) (v : Value) (n : Nat) (av kv wv : Nat → Int) (a : Int) (W : World) (h : Rows3 W rb v n av kv wv) :
    Calls Try.prog 23 #[.pointer (some ⟨rb, 0, none⟩), .int .i64 a] W fun e w' => (∃ r, e = .returned (.int .i64 r) ∧ FirstAt n av a r) ∧ w' = W := by
  obtain ⟨h0, hn, ⟨rfl, rfl⟩ | ⟨g, cap, rfl, hc⟩⟩ := h
  · go_enter Try.func23, Try.ntmps23
    go_wp2
    go_loop [5] (fun i => i = .int .i64 0) (fun i => 0)
    case atStart => rfl
    case round =>
      subst hrel
      go_wp2
      go_ret
      exact ⟨⟨_, rfl, .inr ⟨fun j hj => by omega, rfl⟩⟩, rfl⟩
  · go_enter Try.func23, Try.ntmps23
    go_wp2
    go_loop [5] (fun i => ∃ k : Nat, k ≤ n ∧ i = .int .i64 k ∧ ∀ j, j < k → av j ≠ a) (fun i => n - (intOf i).toNat)
    case atStart => exact ⟨0, Nat.zero_le _, rfl, fun j hj => by omega⟩
    case round =>
      obtain ⟨k, hk, rfl, hne⟩ := hrel
      by_cases hlt : k < n
      · obtain ⟨c0, c1, c2⟩ := hc k hlt
        clear hc c1 c2
        by_cases e : av k = a
        · have e1 : (av k == a) = true := by simpa using e
          have He := Lib.hid e
          clear e
          go_wp2
          go_ret
          exact ⟨⟨_, rfl, .inl ⟨k, hlt, He.out, hne, rfl⟩⟩, rfl⟩
        · have e1 : (av k == a) = false := by simpa using e
          have He := Lib.hid e
          clear e
          go_wp2
          go_round
          case rel => exact ⟨k + 1, by omega, by go_num, fun j hj => by
            by_cases q : j = k
            · subst q; exact He.out
            · exact hne j (by omega)⟩
          case measure => simp [intOf]; omega
      · obtain rfl : k = n := by omega
        clear hc
        go_wp2
        go_ret
        exact ⟨⟨_, rfl, .inr ⟨hne, rfl⟩⟩, rfl⟩
set_option maxRecDepth 100000 in
theorem rlive (rb : Nat) (v : Value) (n : Nat) (av kv wv : Nat → Int) (a : Int) (W : World) (h : Rows3 W rb v n av kv wv) :
    Calls Try.prog 18 #[.pointer (some ⟨rb, 0, none⟩), .int .i64 a] W fun e w' => e = .returned (.int .i64 (cnt (fun j => kv j == a) n)) ∧ w' = W := by
  obtain ⟨h0, hn, ⟨rfl, rfl⟩ | ⟨g, cap, rfl, hc⟩⟩ := h
  · go_enter Try.func18, Try.ntmps18
    go_wp2
    go_loop [5, 6] (fun t i => t = .int .i64 0 ∧ i = .int .i64 0) (fun _ i => 0)
    case atStart => exact ⟨rfl, rfl⟩
    case round =>
      obtain ⟨rfl, rfl⟩ := hrel
      go_wp2
      go_ret
      exact ⟨rfl, rfl⟩
  · go_enter Try.func18, Try.ntmps18
    go_wp2
    go_loop [5, 6] (fun t i => ∃ k : Nat, k ≤ n ∧ i = .int .i64 k ∧ t = .int .i64 (cnt (fun j => kv j == a) k)) (fun _ i => n - (intOf i).toNat)
    case atStart => exact ⟨0, Nat.zero_le _, rfl, rfl⟩
    case round =>
      obtain ⟨k, hk, rfl, rfl⟩ := hrel
      have hle := cnt_le (fun j => kv j == a) k
      by_cases hlt : k < n
      · obtain ⟨c0, c1, c2⟩ := hc k hlt
        clear hc c0 c2
        cases e1 : (kv k == a) with
        | true =>
          have hs := Lib.hid (cnt_true (u := fun j => kv j == a) (k := k) e1)
          generalize hq : cnt (fun j => kv j == a) k = q at hle hs
          clear hq
          go_wp2
          go_round
          case rel => exact ⟨k + 1, by omega, by go_num, by rw [hs.out]; go_num⟩
          case measure => simp [intOf]; omega
        | false =>
          have hs := Lib.hid (cnt_false (u := fun j => kv j == a) (k := k) e1)
          generalize hq : cnt (fun j => kv j == a) k = q at hle hs
          clear hq
          go_wp2
          go_round
          case rel => exact ⟨k + 1, by omega, by go_num, by rw [hs.out]⟩
          case measure => simp [intOf]; omega
      · obtain rfl : k = n := by omega
        clear hc
        go_wp2
        go_ret
        exact ⟨rfl, rfl⟩
end Go.Proofs.Ytlpdemdakcjjjaa.W
namespace Go.Proofs.Ytlpdemdakcjjjaa.W
open Go Go.RowKit Go.Proofs Go.Proofs.Ytlpdemdakcjjjaa.Sx
set_option linter.unusedVariables false
set_option linter.unusedSimpArgs false
theorem cell_lt {W : World} {b o : Nat} {v : Value} (h : W.cell? ⟨b, o, none⟩ = some v) : b < W.heap.size := by
  by_cases q : b < W.heap.size
  · exact q
  · exfalso
    have e : W.heap[b]? = none := Array.getElem?_eq_none (by omega)
    simp [World.cell?, e] at h
theorem Rows3.below {W W' : World} {rb : Nat} {v : Value} {n : Nat} {av kv wv : Nat → Int} (h : Rows3 W rb v n av kv wv) (hb : Below W.heap.size W W') : Rows3 W' rb v n av kv wv := by
  obtain ⟨c, _⟩ := bcell hb
  refine ⟨(c _ _ (cell_lt h.head)).trans h.head, h.low, ?_⟩
  rcases h.shape with h1 | ⟨g, cap, rfl, hc⟩
  · exact .inl h1
  · refine .inr ⟨g, cap, rfl, fun j hj => ?_⟩
    obtain ⟨h1, h2, h3⟩ := hc j hj
    exact ⟨(c _ _ (cell_lt h1)).trans h1, (c _ _ (cell_lt h2)).trans h2, (c _ _ (cell_lt h3)).trans h3⟩
/-- So many words from an address on lie in a row's block. -/
def InRow (a w x y : Int) : Bool := (a.tmod 4 == 0) && (decide (1 ≤ w) && (decide (x ≤ a) && (decide (a < x + 4 * y) && decide (w ≤ y - (a - x).tdiv 4))))
set_option maxRecDepth 100000 in
theorem rwithin (rb : Nat) (v : Value) (n : Nat) (av kv wv : Nat → Int) (a w : Int) (W : World) (h : Rows3 W rb v n av kv wv) (hv : ∀ j, j < n → 0 ≤ av j ∧ av j < 1000000 ∧ 0 ≤ wv j ∧ wv j < 1000) :
    Calls Try.prog 19 #[.pointer (some ⟨rb, 0, none⟩), .int .i64 a, .int .i64 w] W fun e w' => (∃ r, e = .returned (.bool r) ∧ (r = true ↔ ∃ j, j < n ∧ InRow a w (av j) (wv j) = true)) ∧ Below W.heap.size W w' := by
  go_enter Try.func19, Try.ntmps19
  go_wp2
  go_loopw [7] (fun i wr => ∃ k : Nat, k ≤ n ∧ i = .int .i64 k ∧ (∀ j, j < k → InRow a w (av j) (wv j) = false) ∧ Below W.heap.size W wr) (fun i _ => n - (intOf i).toNat)
  case atStart => exact ⟨0, Nat.zero_le _, rfl, fun j hj => by omega, Below.refl _ _⟩
  case round =>
    obtain ⟨k, hk, rfl, hne, hB⟩ := hrel
    obtain ⟨h0, hn, ⟨rfl, rfl⟩ | ⟨g, cap, rfl, hc⟩⟩ := h.below hB
    · obtain rfl : k = 0 := by omega
      go_wp2
      go_ret
      exact ⟨⟨_, rfl, by simp⟩, hB⟩
    · by_cases hlt : k < n
      · obtain ⟨c0, c1, c2⟩ := hc k hlt
        obtain ⟨v1, v2, v3, v4⟩ := hv k hlt
        clear hc hv h
        generalize hx : av k = x at c0 v1 v2
        generalize hy : wv k = y at c2 v3 v4
        have hX := Lib.hid hx
        have hY := Lib.hid hy
        clear hx hy
        cases e1 : (a.tmod 4 == 0) with
        | false =>
          go_wp2
          go_roundw
          case rel => exact ⟨k + 1, by omega, by go_num, fun j hj => by
            by_cases q : j = k
            · subst q; rw [hX.out, hY.out]; simp only [InRow, e1, Bool.false_and, Bool.and_false, Bool.true_and]
            · exact hne j (by omega), hB.alloc hB.size _⟩
          case measure => simp [intOf]; omega
        | true =>
          cases e2 : decide (1 ≤ w) with
          | false =>
            go_wp2
            go_roundw
            case rel => exact ⟨k + 1, by omega, by go_num, fun j hj => by
              by_cases q : j = k
              · subst q; rw [hX.out, hY.out]; simp only [InRow, e1, e2, Bool.false_and, Bool.and_false, Bool.true_and]
              · exact hne j (by omega), hB.alloc hB.size _⟩
            case measure => simp [intOf]; omega
          | true =>
            cases e3 : decide (x ≤ a) with
            | false =>
              go_wp2
              go_roundw
              case rel => exact ⟨k + 1, by omega, by go_num, fun j hj => by
                by_cases q : j = k
                · subst q; rw [hX.out, hY.out]; simp only [InRow, e1, e2, e3, Bool.false_and, Bool.and_false, Bool.true_and]
                · exact hne j (by omega), hB.alloc hB.size _⟩
              case measure => simp [intOf]; omega
            | true =>
              have p3 : x ≤ a := by simpa using e3
              have m1 : a % 4 = 0 := by rw [← Int.tmod_eq_emod_of_nonneg (by omega)]; simpa using e1
              cases e4 : decide (a < x + 4 * y) with
              | false =>
                have p4 : x + 4 * y ≤ a := by simpa using e4
                go_wp2
                go_roundw
                case rel => exact ⟨k + 1, by omega, by go_num, fun j hj => by
                  by_cases q : j = k
                  · subst q; rw [hX.out, hY.out]; simp only [InRow, e1, e2, e3, e4, Bool.false_and, Bool.and_false, Bool.true_and]
                  · exact hne j (by omega), hB.alloc hB.size _⟩
                case measure => simp [intOf]; omega
              | true =>
                have p4 : a < x + 4 * y := by simpa using e4
                have m5 := Int.tdiv_eq_ediv_of_nonneg (a := a - x) (b := 4) (by omega)
                cases e5 : decide (w ≤ y - (a - x).tdiv 4) with
                | false =>
                  have p5 : y - (a - x) / 4 < w := by rw [← m5]; simpa using e5
                  clear m5
                  go_wp2
                  go_roundw
                  case rel => exact ⟨k + 1, by omega, by go_num, fun j hj => by
                    by_cases q : j = k
                    · subst q; rw [hX.out, hY.out]; simp only [InRow, e1, e2, e3, e4, e5, Bool.false_and, Bool.and_false, Bool.true_and]
                    · exact hne j (by omega), hB.alloc hB.size _⟩
                  case measure => simp [intOf]; omega
                | true =>
                  have p5 : w ≤ y - (a - x) / 4 := by rw [← m5]; simpa using e5
                  clear m5
                  go_wp2
                  go_ret
                  exact ⟨⟨_, rfl, by simp only [true_iff]; exact ⟨k, hlt, by rw [hX.out, hY.out]; simp only [InRow, e1, e2, e3, e4, e5, Bool.and_true, Bool.true_and]⟩⟩, hB.alloc hB.size _⟩
      · obtain rfl : k = n := by omega
        clear hc
        go_wp2
        go_ret
        refine ⟨⟨_, rfl, ?_⟩, hB⟩
        constructor
        · intro q; cases q
        · rintro ⟨j, hj, q⟩; rw [hne j hj] at q; cases q
end Go.Proofs.Ytlpdemdakcjjjaa.W
namespace Go.Proofs.Ytlpdemdakcjjjaa.W
open Go Go.RowKit Go.Proofs Go.Proofs.Ytlpdemdakcjjjaa.Sx
set_option linter.unusedVariables false
set_option linter.unusedSimpArgs false
theorem w64 (x : Int) (h0 : 0 ≤ x) (h1 : x < 9223372036854775808) : IntKind.i64.wrap x = x := by
  simp only [IntKind.wrap, IntKind.signed, IntKind.bits]
  have e : x % (2 ^ 64 : Int) = x := by omega
  simp only [e]
  rw [if_neg (by simp; omega)]
def placeT0 : T V := .ret (.int .i64 (.wrap .i64 (.add (.lit 262144) (.wrap .i64 (.mul (.lit 16) (.var 0))))))
theorem place_eq0 : callTop Try.prog noSum 60 24 [.int .i64 (.lit 0), .int .i64 (.var 0)] [] = placeT0 := by kernel_rfl
theorem place0 (k : Int) (h0 : 0 ≤ k) (h1 : k < 64) (W : World) : Calls Try.prog 24 #[.int .i64 0, .int .i64 k] W fun e W' => e = .returned (.int .i64 (262144 + 16 * k)) ∧ Below W.heap.size W W' := by
  refine contract (η := { i := fun _ => k }) (plain_of (by kernel_rfl)) (by kernel_rfl) (noSum_ok _ _) (n := 60) (args := [.int .i64 (.lit 0), .int .i64 (.var 0)]) (args' := [.int .i64 0, .int .i64 k]) (.cons _ _ _ _ (.int _ _) (.cons _ _ _ _ (.int _ _) .nil)) facts_none ?_ W
  rw [place_eq0]
  simp only [placeT0, T.gives, V.val, E.den, Option.some.injEq, Value.int.injEq, true_and]
  rw [w64 (16 * k) (by omega) (by omega), w64 _ (by omega) (by omega)]
def placeT1 : T V := .ret (.int .i64 (.wrap .i64 (.add (.lit 263168) (.wrap .i64 (.mul (.lit 64) (.var 0))))))
theorem place_eq1 : callTop Try.prog noSum 60 24 [.int .i64 (.lit 1), .int .i64 (.var 0)] [] = placeT1 := by kernel_rfl
theorem place1 (k : Int) (h0 : 0 ≤ k) (h1 : k < 64) (W : World) : Calls Try.prog 24 #[.int .i64 1, .int .i64 k] W fun e W' => e = .returned (.int .i64 (263168 + 64 * k)) ∧ Below W.heap.size W W' := by
  refine contract (η := { i := fun _ => k }) (plain_of (by kernel_rfl)) (by kernel_rfl) (noSum_ok _ _) (n := 60) (args := [.int .i64 (.lit 1), .int .i64 (.var 0)]) (args' := [.int .i64 1, .int .i64 k]) (.cons _ _ _ _ (.int _ _) (.cons _ _ _ _ (.int _ _) .nil)) facts_none ?_ W
  rw [place_eq1]
  simp only [placeT1, T.gives, V.val, E.den, Option.some.injEq, Value.int.injEq, true_and]
  rw [w64 (64 * k) (by omega) (by omega), w64 _ (by omega) (by omega)]
def placeT2 : T V := .ret (.int .i64 (.wrap .i64 (.add (.lit 265216) (.wrap .i64 (.mul (.lit 256) (.var 0))))))
theorem place_eq2 : callTop Try.prog noSum 60 24 [.int .i64 (.lit 2), .int .i64 (.var 0)] [] = placeT2 := by kernel_rfl
theorem place2 (k : Int) (h0 : 0 ≤ k) (h1 : k < 64) (W : World) : Calls Try.prog 24 #[.int .i64 2, .int .i64 k] W fun e W' => e = .returned (.int .i64 (265216 + 256 * k)) ∧ Below W.heap.size W W' := by
  refine contract (η := { i := fun _ => k }) (plain_of (by kernel_rfl)) (by kernel_rfl) (noSum_ok _ _) (n := 60) (args := [.int .i64 (.lit 2), .int .i64 (.var 0)]) (args' := [.int .i64 2, .int .i64 k]) (.cons _ _ _ _ (.int _ _) (.cons _ _ _ _ (.int _ _) .nil)) facts_none ?_ W
  rw [place_eq2]
  simp only [placeT2, T.gives, V.val, E.den, Option.some.injEq, Value.int.injEq, true_and]
  rw [w64 (256 * k) (by omega) (by omega), w64 _ (by omega) (by omega)]
def placeT3 : T V := .ret (.int .i64 (.wrap .i64 (.add (.lit 269312) (.wrap .i64 (.mul (.lit 512) (.var 0))))))
theorem place_eq3 : callTop Try.prog noSum 60 24 [.int .i64 (.lit 3), .int .i64 (.var 0)] [] = placeT3 := by kernel_rfl
theorem place3 (k : Int) (h0 : 0 ≤ k) (h1 : k < 64) (W : World) : Calls Try.prog 24 #[.int .i64 3, .int .i64 k] W fun e W' => e = .returned (.int .i64 (269312 + 512 * k)) ∧ Below W.heap.size W W' := by
  refine contract (η := { i := fun _ => k }) (plain_of (by kernel_rfl)) (by kernel_rfl) (noSum_ok _ _) (n := 60) (args := [.int .i64 (.lit 3), .int .i64 (.var 0)]) (args' := [.int .i64 3, .int .i64 k]) (.cons _ _ _ _ (.int _ _) (.cons _ _ _ _ (.int _ _) .nil)) facts_none ?_ W
  rw [place_eq3]
  simp only [placeT3, T.gives, V.val, E.den, Option.some.injEq, Value.int.injEq, true_and]
  rw [w64 (512 * k) (by omega) (by omega), w64 _ (by omega) (by omega)]
theorem place_any {c : Nat} (hc : c < 4) {k : Nat} (hk : k < nb c) (W : World) : Calls Try.prog 24 #[.int .i64 c, .int .i64 k] W fun e W' => e = .returned (.int .i64 (atc c + 4 * szc c * k)) ∧ Below W.heap.size W W' := by
  match c, hc with
  | 0, _ => exact place0 k (by omega) (by unfold nb at hk; simp at hk; omega) W
  | 1, _ => exact place1 k (by omega) (by unfold nb at hk; simp at hk; omega) W
  | 2, _ => exact place2 k (by omega) (by unfold nb at hk; simp at hk; omega) W
  | 3, _ => exact place3 k (by omega) (by unfold nb at hk; simp at hk; omega) W
end Go.Proofs.Ytlpdemdakcjjjaa.W
