/- The heap's Alloc, find, Free, Live, class by class. -/
import Derived.Test.YtlpdemdakcjjjaaHpEng
import Derived.WalkKit
import Derived.Lib.Hide
import Derived.LoopTactic
import Derived.Deep.QuietTactic
import Derived.BigQuiet
import Derived.IntWalk
import Derived.WalkSmall
namespace Go.Proofs.Ytlpdemdakcjjjaa.W
open Go Go.RowKit Go.Proofs Go.Proofs.Ytlpdemdakcjjjaa.Sx
set_option linter.unusedVariables false
set_option linter.unusedSimpArgs false
theorem bcell {W w1 : World} (hb : Below W.heap.size W w1) : (∀ b o, b < W.heap.size → w1.cell? ⟨b, o, none⟩ = W.cell? ⟨b, o, none⟩) ∧ (∀ b o, b < W.heap.size → w1.frozen? ⟨b, o, none⟩ = W.frozen? ⟨b, o, none⟩) :=
  ⟨fun b o h => hb.cell (p := ⟨b, o, none⟩) h, fun b o h => hb.frozen (p := ⟨b, o, none⟩) h⟩
theorem none_any (hb : Nat) (W : World) (h0 : W.cell? ⟨hb, 0, none⟩ = some (.bool true)) :
    Calls Try.prog 21 #[.pointer (some ⟨hb, 0, none⟩)] W fun e w' => e = .returned (.bool false) ∧ w' = W := by
  go_enter Try.func21, Try.ntmps21
  go_wp2
  go_ret
  exact ⟨rfl, rfl⟩
/-- What Alloc leaves: the first block that is not in use is; or none is left. -/
def AllocTo (W : World) (b : Nat) (u : Nat → Bool) (n : Nat) (at0 size : Int) (e : Ending) (W' : World) : Prop :=
  (∃ i : Nat, i < n ∧ u i = false ∧ (∀ j, j < i → u j = true) ∧ e = .returned (.tuple #[.int .i64 (at0 + size * i), .int .i64 0]) ∧ ∃ W1, Below W.heap.size W W1 ∧ Below (W1.setCell ⟨b, i, none⟩ (.bool true)).heap.size (W1.setCell ⟨b, i, none⟩ (.bool true)) W') ∨
  ((∀ j, j < n → u j = true) ∧ e = .returned (.tuple #[.int .i64 0, .int .i64 12]) ∧ Below W.heap.size W W')
set_option maxRecDepth 100000 in
theorem alloc0 (hb b : Nat) (u : Nat → Bool) (w : Int) (W : World) (hw0 : 0 ≤ w) (hw1 : w ≤ 4) (h0 : W.cell? ⟨hb, 0, none⟩ = some (.bool true)) (h1 : W.cell? ⟨hb, 1, none⟩ = some (.slice (some ⟨b, 0, none⟩) 64 64))
    (hu : ∀ i, i < 64 → W.cell? ⟨b, i, none⟩ = some (.bool (u i))) (hf : ∀ i, i < 64 → W.frozen? ⟨b, i, none⟩ = false) (l1 : hb < W.heap.size) (l2 : b < W.heap.size) :
    Calls Try.prog 9 #[.pointer (some ⟨hb, 0, none⟩), .int .i64 w] W (AllocTo W b u 64 262144 16) := by
  have hc : ∀ W, Calls Try.prog 8 #[.int .i64 w] W fun e W' => e = .returned (.tuple #[.int .i64 0, .int .i64 4, .int .i64 64, .int .i64 0]) ∧ Below W.heap.size W W' := by
    intro W
    have k1 : clsK w = 0 := by unfold clsK; repeat' split <;> first | rfl | omega
    have k2 : clsS w = 4 := by unfold clsS; repeat' split <;> first | rfl | omega
    have k3 : clsB w = 64 := by unfold clsB; repeat' split <;> first | rfl | omega
    have k4 : clsE w = 0 := by unfold clsE; repeat' split <;> first | rfl | omega
    have := class_calls w W
    rw [k1, k2, k3, k4] at this
    exact this
  clear hw0 hw1
  have i0 : ∀ w, (Instr.index 55 allV (.int .i64 0)).run Try.prog w = .ok (.agg #[.int .i64 4, .int .i64 64, .int .i64 262144]) w := fun _ => by kernel_rfl
  have f02 : ∀ w, (Instr.field 54 (.agg #[.int .i64 4, .int .i64 64, .int .i64 262144]) 2).run Try.prog w = .ok (.int .i64 262144) w := fun _ => by kernel_rfl
  go_enter Try.func9, Try.ntmps9
  go_wp2_with (first | (go_at_call 21; refine (none_any hb _ h0).mono ?_; rintro e w' ⟨rfl, rfl⟩) | (go_at_call 8; refine (hc _).mono ?_; rintro e W1 ⟨rfl, hb1⟩))
  obtain ⟨hc1, hf1⟩ := bcell hb1
  have k0 := (hc1 hb 0 l1).trans h0
  have k1 := (hc1 hb 1 l1).trans h1
  have ku : ∀ i, i < 64 → W1.cell? ⟨b, i, none⟩ = some (.bool (u i)) := fun i h => (hc1 b i l2).trans (hu i h)
  have kf : ∀ i, i < 64 → W1.frozen? ⟨b, i, none⟩ = false := fun i h => (hf1 b i l2).trans (hf i h)
  clear hc1 hf1
  go_loop [24] (fun i => ∃ k : Nat, k ≤ 64 ∧ i = .int .i64 k ∧ ∀ j, j < k → u j = true) (fun i => 64 - (intOf i).toNat)
  case atStart => exact ⟨0, Nat.zero_le _, rfl, fun j h => absurd h (by omega)⟩
  case round =>
    obtain ⟨k, hk, rfl, hne⟩ := hrel
    by_cases hlt : k < 64
    · have hcell := ku k hlt
      have hfro := kf k hlt
      clear ku kf hu hf
      cases hq : u k with
      | true =>
        rw [hq] at hcell
        go_wp2
        go_round
        case rel => exact ⟨k + 1, by omega, by go_num, fun j h => by rcases Nat.lt_succ_iff_lt_or_eq.1 h with h | rfl; exact hne j h; exact hq⟩
        case measure => simp [intOf]; omega
      | false =>
        rw [hq] at hcell
        go_wp2_with (go_at_call 20; refine (all_calls _).mono ?_; rintro e W2 ⟨rfl, hb2⟩)
        go_ret2
        exact .inl ⟨k, hlt, hq, hne, rfl, _, hb1, hb2⟩
    · go_wp2
      go_ret2
      exact .inr ⟨fun j h => hne j (by omega), rfl, hb1⟩
set_option maxRecDepth 100000 in
theorem alloc1 (hb b : Nat) (u : Nat → Bool) (w : Int) (W : World) (hw0 : 5 ≤ w) (hw1 : w ≤ 16) (h0 : W.cell? ⟨hb, 0, none⟩ = some (.bool true)) (h1 : W.cell? ⟨hb, 2, none⟩ = some (.slice (some ⟨b, 0, none⟩) 32 32))
    (hu : ∀ i, i < 32 → W.cell? ⟨b, i, none⟩ = some (.bool (u i))) (hf : ∀ i, i < 32 → W.frozen? ⟨b, i, none⟩ = false) (l1 : hb < W.heap.size) (l2 : b < W.heap.size) :
    Calls Try.prog 9 #[.pointer (some ⟨hb, 0, none⟩), .int .i64 w] W (AllocTo W b u 32 263168 64) := by
  have hc : ∀ W, Calls Try.prog 8 #[.int .i64 w] W fun e W' => e = .returned (.tuple #[.int .i64 1, .int .i64 16, .int .i64 32, .int .i64 0]) ∧ Below W.heap.size W W' := by
    intro W
    have k1 : clsK w = 1 := by unfold clsK; repeat' split <;> first | rfl | omega
    have k2 : clsS w = 16 := by unfold clsS; repeat' split <;> first | rfl | omega
    have k3 : clsB w = 32 := by unfold clsB; repeat' split <;> first | rfl | omega
    have k4 : clsE w = 0 := by unfold clsE; repeat' split <;> first | rfl | omega
    have := class_calls w W
    rw [k1, k2, k3, k4] at this
    exact this
  clear hw0 hw1
  have i1 : ∀ w, (Instr.index 55 allV (.int .i64 1)).run Try.prog w = .ok (.agg #[.int .i64 16, .int .i64 32, .int .i64 263168]) w := fun _ => by kernel_rfl
  have f12 : ∀ w, (Instr.field 54 (.agg #[.int .i64 16, .int .i64 32, .int .i64 263168]) 2).run Try.prog w = .ok (.int .i64 263168) w := fun _ => by kernel_rfl
  go_enter Try.func9, Try.ntmps9
  go_wp2_with (first | (go_at_call 21; refine (none_any hb _ h0).mono ?_; rintro e w' ⟨rfl, rfl⟩) | (go_at_call 8; refine (hc _).mono ?_; rintro e W1 ⟨rfl, hb1⟩))
  obtain ⟨hc1, hf1⟩ := bcell hb1
  have k0 := (hc1 hb 0 l1).trans h0
  have k1 := (hc1 hb 2 l1).trans h1
  have ku : ∀ i, i < 32 → W1.cell? ⟨b, i, none⟩ = some (.bool (u i)) := fun i h => (hc1 b i l2).trans (hu i h)
  have kf : ∀ i, i < 32 → W1.frozen? ⟨b, i, none⟩ = false := fun i h => (hf1 b i l2).trans (hf i h)
  clear hc1 hf1
  go_loop [24] (fun i => ∃ k : Nat, k ≤ 32 ∧ i = .int .i64 k ∧ ∀ j, j < k → u j = true) (fun i => 32 - (intOf i).toNat)
  case atStart => exact ⟨0, Nat.zero_le _, rfl, fun j h => absurd h (by omega)⟩
  case round =>
    obtain ⟨k, hk, rfl, hne⟩ := hrel
    by_cases hlt : k < 32
    · have hcell := ku k hlt
      have hfro := kf k hlt
      clear ku kf hu hf
      cases hq : u k with
      | true =>
        rw [hq] at hcell
        go_wp2
        go_round
        case rel => exact ⟨k + 1, by omega, by go_num, fun j h => by rcases Nat.lt_succ_iff_lt_or_eq.1 h with h | rfl; exact hne j h; exact hq⟩
        case measure => simp [intOf]; omega
      | false =>
        rw [hq] at hcell
        go_wp2_with (go_at_call 20; refine (all_calls _).mono ?_; rintro e W2 ⟨rfl, hb2⟩)
        go_ret2
        exact .inl ⟨k, hlt, hq, hne, rfl, _, hb1, hb2⟩
    · go_wp2
      go_ret2
      exact .inr ⟨fun j h => hne j (by omega), rfl, hb1⟩
set_option maxRecDepth 100000 in
theorem alloc2 (hb b : Nat) (u : Nat → Bool) (w : Int) (W : World) (hw0 : 17 ≤ w) (hw1 : w ≤ 64) (h0 : W.cell? ⟨hb, 0, none⟩ = some (.bool true)) (h1 : W.cell? ⟨hb, 3, none⟩ = some (.slice (some ⟨b, 0, none⟩) 16 16))
    (hu : ∀ i, i < 16 → W.cell? ⟨b, i, none⟩ = some (.bool (u i))) (hf : ∀ i, i < 16 → W.frozen? ⟨b, i, none⟩ = false) (l1 : hb < W.heap.size) (l2 : b < W.heap.size) :
    Calls Try.prog 9 #[.pointer (some ⟨hb, 0, none⟩), .int .i64 w] W (AllocTo W b u 16 265216 256) := by
  have hc : ∀ W, Calls Try.prog 8 #[.int .i64 w] W fun e W' => e = .returned (.tuple #[.int .i64 2, .int .i64 64, .int .i64 16, .int .i64 0]) ∧ Below W.heap.size W W' := by
    intro W
    have k1 : clsK w = 2 := by unfold clsK; repeat' split <;> first | rfl | omega
    have k2 : clsS w = 64 := by unfold clsS; repeat' split <;> first | rfl | omega
    have k3 : clsB w = 16 := by unfold clsB; repeat' split <;> first | rfl | omega
    have k4 : clsE w = 0 := by unfold clsE; repeat' split <;> first | rfl | omega
    have := class_calls w W
    rw [k1, k2, k3, k4] at this
    exact this
  clear hw0 hw1
  have i2 : ∀ w, (Instr.index 55 allV (.int .i64 2)).run Try.prog w = .ok (.agg #[.int .i64 64, .int .i64 16, .int .i64 265216]) w := fun _ => by kernel_rfl
  have f22 : ∀ w, (Instr.field 54 (.agg #[.int .i64 64, .int .i64 16, .int .i64 265216]) 2).run Try.prog w = .ok (.int .i64 265216) w := fun _ => by kernel_rfl
  go_enter Try.func9, Try.ntmps9
  go_wp2_with (first | (go_at_call 21; refine (none_any hb _ h0).mono ?_; rintro e w' ⟨rfl, rfl⟩) | (go_at_call 8; refine (hc _).mono ?_; rintro e W1 ⟨rfl, hb1⟩))
  obtain ⟨hc1, hf1⟩ := bcell hb1
  have k0 := (hc1 hb 0 l1).trans h0
  have k1 := (hc1 hb 3 l1).trans h1
  have ku : ∀ i, i < 16 → W1.cell? ⟨b, i, none⟩ = some (.bool (u i)) := fun i h => (hc1 b i l2).trans (hu i h)
  have kf : ∀ i, i < 16 → W1.frozen? ⟨b, i, none⟩ = false := fun i h => (hf1 b i l2).trans (hf i h)
  clear hc1 hf1
  go_loop [24] (fun i => ∃ k : Nat, k ≤ 16 ∧ i = .int .i64 k ∧ ∀ j, j < k → u j = true) (fun i => 16 - (intOf i).toNat)
  case atStart => exact ⟨0, Nat.zero_le _, rfl, fun j h => absurd h (by omega)⟩
  case round =>
    obtain ⟨k, hk, rfl, hne⟩ := hrel
    by_cases hlt : k < 16
    · have hcell := ku k hlt
      have hfro := kf k hlt
      clear ku kf hu hf
      cases hq : u k with
      | true =>
        rw [hq] at hcell
        go_wp2
        go_round
        case rel => exact ⟨k + 1, by omega, by go_num, fun j h => by rcases Nat.lt_succ_iff_lt_or_eq.1 h with h | rfl; exact hne j h; exact hq⟩
        case measure => simp [intOf]; omega
      | false =>
        rw [hq] at hcell
        go_wp2_with (go_at_call 20; refine (all_calls _).mono ?_; rintro e W2 ⟨rfl, hb2⟩)
        go_ret2
        exact .inl ⟨k, hlt, hq, hne, rfl, _, hb1, hb2⟩
    · go_wp2
      go_ret2
      exact .inr ⟨fun j h => hne j (by omega), rfl, hb1⟩
set_option maxRecDepth 100000 in
theorem alloc3 (hb b : Nat) (u : Nat → Bool) (w : Int) (W : World) (hw0 : 65 ≤ w) (hw1 : w ≤ 128) (h0 : W.cell? ⟨hb, 0, none⟩ = some (.bool true)) (h1 : W.cell? ⟨hb, 4, none⟩ = some (.slice (some ⟨b, 0, none⟩) 8 8))
    (hu : ∀ i, i < 8 → W.cell? ⟨b, i, none⟩ = some (.bool (u i))) (hf : ∀ i, i < 8 → W.frozen? ⟨b, i, none⟩ = false) (l1 : hb < W.heap.size) (l2 : b < W.heap.size) :
    Calls Try.prog 9 #[.pointer (some ⟨hb, 0, none⟩), .int .i64 w] W (AllocTo W b u 8 269312 512) := by
  have hc : ∀ W, Calls Try.prog 8 #[.int .i64 w] W fun e W' => e = .returned (.tuple #[.int .i64 3, .int .i64 128, .int .i64 8, .int .i64 0]) ∧ Below W.heap.size W W' := by
    intro W
    have k1 : clsK w = 3 := by unfold clsK; repeat' split <;> first | rfl | omega
    have k2 : clsS w = 128 := by unfold clsS; repeat' split <;> first | rfl | omega
    have k3 : clsB w = 8 := by unfold clsB; repeat' split <;> first | rfl | omega
    have k4 : clsE w = 0 := by unfold clsE; repeat' split <;> first | rfl | omega
    have := class_calls w W
    rw [k1, k2, k3, k4] at this
    exact this
  clear hw0 hw1
  have i3 : ∀ w, (Instr.index 55 allV (.int .i64 3)).run Try.prog w = .ok (.agg #[.int .i64 128, .int .i64 8, .int .i64 269312]) w := fun _ => by kernel_rfl
  have f32 : ∀ w, (Instr.field 54 (.agg #[.int .i64 128, .int .i64 8, .int .i64 269312]) 2).run Try.prog w = .ok (.int .i64 269312) w := fun _ => by kernel_rfl
  go_enter Try.func9, Try.ntmps9
  go_wp2_with (first | (go_at_call 21; refine (none_any hb _ h0).mono ?_; rintro e w' ⟨rfl, rfl⟩) | (go_at_call 8; refine (hc _).mono ?_; rintro e W1 ⟨rfl, hb1⟩))
  obtain ⟨hc1, hf1⟩ := bcell hb1
  have k0 := (hc1 hb 0 l1).trans h0
  have k1 := (hc1 hb 4 l1).trans h1
  have ku : ∀ i, i < 8 → W1.cell? ⟨b, i, none⟩ = some (.bool (u i)) := fun i h => (hc1 b i l2).trans (hu i h)
  have kf : ∀ i, i < 8 → W1.frozen? ⟨b, i, none⟩ = false := fun i h => (hf1 b i l2).trans (hf i h)
  clear hc1 hf1
  go_loop [24] (fun i => ∃ k : Nat, k ≤ 8 ∧ i = .int .i64 k ∧ ∀ j, j < k → u j = true) (fun i => 8 - (intOf i).toNat)
  case atStart => exact ⟨0, Nat.zero_le _, rfl, fun j h => absurd h (by omega)⟩
  case round =>
    obtain ⟨k, hk, rfl, hne⟩ := hrel
    by_cases hlt : k < 8
    · have hcell := ku k hlt
      have hfro := kf k hlt
      clear ku kf hu hf
      cases hq : u k with
      | true =>
        rw [hq] at hcell
        go_wp2
        go_round
        case rel => exact ⟨k + 1, by omega, by go_num, fun j h => by rcases Nat.lt_succ_iff_lt_or_eq.1 h with h | rfl; exact hne j h; exact hq⟩
        case measure => simp [intOf]; omega
      | false =>
        rw [hq] at hcell
        go_wp2_with (go_at_call 20; refine (all_calls _).mono ?_; rintro e W2 ⟨rfl, hb2⟩)
        go_ret2
        exact .inl ⟨k, hlt, hq, hne, rfl, _, hb1, hb2⟩
    · go_wp2
      go_ret2
      exact .inr ⟨fun j h => hne j (by omega), rfl, hb1⟩
theorem alloc_no (hb : Nat) (w : Int) (W : World) (hw : w < 0 ∨ 128 < w) (h0 : W.cell? ⟨hb, 0, none⟩ = some (.bool true)) :
    Calls Try.prog 9 #[.pointer (some ⟨hb, 0, none⟩), .int .i64 w] W fun e W' => e = .returned (.tuple #[.int .i64 0, .int .i64 2]) ∧ Below W.heap.size W W' := by
  have hc : ∀ W, Calls Try.prog 8 #[.int .i64 w] W fun e W' => e = .returned (.tuple #[.int .i64 0, .int .i64 0, .int .i64 0, .int .i64 2]) ∧ Below W.heap.size W W' := by
    intro W
    have k1 : clsK w = 0 := by unfold clsK; repeat' split <;> first | rfl | omega
    have k2 : clsS w = 0 := by unfold clsS; repeat' split <;> first | rfl | omega
    have k3 : clsB w = 0 := by unfold clsB; repeat' split <;> first | rfl | omega
    have k4 : clsE w = 2 := by unfold clsE; repeat' split <;> first | rfl | omega
    have := class_calls w W
    rw [k1, k2, k3, k4] at this
    exact this
  clear hw
  go_enter Try.func9, Try.ntmps9
  go_wp2_with (first | (go_at_call 21; refine (none_any hb _ h0).mono ?_; rintro e w' ⟨rfl, rfl⟩) | (go_at_call 8; refine (hc _).mono ?_; rintro e W1 ⟨rfl, hb1⟩))
  go_ret2
  exact ⟨rfl, hb1⟩
end Go.Proofs.Ytlpdemdakcjjjaa.W
namespace Go.Proofs.Ytlpdemdakcjjjaa.W
open Go Go.RowKit Go.Proofs Go.Proofs.Ytlpdemdakcjjjaa.Sx
set_option linter.unusedVariables false
set_option linter.unusedSimpArgs false
theorem lies0 (x : Int) (p : Nat) (W : World) (h0 : W.cell? ⟨p, 0, none⟩ = some (.int .i64 x)) (l0 : p < W.heap.size) :
    Calls Try.prog 25 #[(.agg #[.int .i64 4, .int .i64 64, .int .i64 262144]), .pointer (some ⟨p, 0, none⟩)] W fun e w' => e = .returned (.bool (decide (262144 ≤ x) && decide (x < 263168))) ∧ Below W.heap.size W w' := by
  go_enter Try.func25, Try.ntmps25
  by_cases h1 : 262144 ≤ x
  · go_wp2
    go_ret
    exact ⟨by simp [h1], (Below.refl _ _).alloc (Nat.le_refl _) _⟩
  · go_wp2
    go_ret
    exact ⟨by simp; omega, (Below.refl _ _).alloc (Nat.le_refl _) _⟩
theorem lies0_yes (x : Int) (p : Nat) (W : World) (h1 : 262144 ≤ x) (h2 : x < 263168) (h0 : W.cell? ⟨p, 0, none⟩ = some (.int .i64 x)) (l0 : p < W.heap.size) :
    Calls Try.prog 25 #[(.agg #[.int .i64 4, .int .i64 64, .int .i64 262144]), .pointer (some ⟨p, 0, none⟩)] W fun e w' => e = .returned (.bool true) ∧ Below W.heap.size W w' := by
  have := lies0 x p W h0 l0
  rw [decide_eq_true h1, decide_eq_true h2] at this
  exact this
theorem lies0_no (x : Int) (p : Nat) (W : World) (h1 : x < 262144 ∨ 263168 ≤ x) (h0 : W.cell? ⟨p, 0, none⟩ = some (.int .i64 x)) (l0 : p < W.heap.size) :
    Calls Try.prog 25 #[(.agg #[.int .i64 4, .int .i64 64, .int .i64 262144]), .pointer (some ⟨p, 0, none⟩)] W fun e w' => e = .returned (.bool false) ∧ Below W.heap.size W w' := by
  have := lies0 x p W h0 l0
  have e : (decide (262144 ≤ x) && decide (x < 263168)) = false := by simp; omega
  rw [e] at this
  exact this
theorem lies1 (x : Int) (p : Nat) (W : World) (h0 : W.cell? ⟨p, 0, none⟩ = some (.int .i64 x)) (l0 : p < W.heap.size) :
    Calls Try.prog 25 #[(.agg #[.int .i64 16, .int .i64 32, .int .i64 263168]), .pointer (some ⟨p, 0, none⟩)] W fun e w' => e = .returned (.bool (decide (263168 ≤ x) && decide (x < 265216))) ∧ Below W.heap.size W w' := by
  go_enter Try.func25, Try.ntmps25
  by_cases h1 : 263168 ≤ x
  · go_wp2
    go_ret
    exact ⟨by simp [h1], (Below.refl _ _).alloc (Nat.le_refl _) _⟩
  · go_wp2
    go_ret
    exact ⟨by simp; omega, (Below.refl _ _).alloc (Nat.le_refl _) _⟩
theorem lies1_yes (x : Int) (p : Nat) (W : World) (h1 : 263168 ≤ x) (h2 : x < 265216) (h0 : W.cell? ⟨p, 0, none⟩ = some (.int .i64 x)) (l0 : p < W.heap.size) :
    Calls Try.prog 25 #[(.agg #[.int .i64 16, .int .i64 32, .int .i64 263168]), .pointer (some ⟨p, 0, none⟩)] W fun e w' => e = .returned (.bool true) ∧ Below W.heap.size W w' := by
  have := lies1 x p W h0 l0
  rw [decide_eq_true h1, decide_eq_true h2] at this
  exact this
theorem lies1_no (x : Int) (p : Nat) (W : World) (h1 : x < 263168 ∨ 265216 ≤ x) (h0 : W.cell? ⟨p, 0, none⟩ = some (.int .i64 x)) (l0 : p < W.heap.size) :
    Calls Try.prog 25 #[(.agg #[.int .i64 16, .int .i64 32, .int .i64 263168]), .pointer (some ⟨p, 0, none⟩)] W fun e w' => e = .returned (.bool false) ∧ Below W.heap.size W w' := by
  have := lies1 x p W h0 l0
  have e : (decide (263168 ≤ x) && decide (x < 265216)) = false := by simp; omega
  rw [e] at this
  exact this
theorem lies2 (x : Int) (p : Nat) (W : World) (h0 : W.cell? ⟨p, 0, none⟩ = some (.int .i64 x)) (l0 : p < W.heap.size) :
    Calls Try.prog 25 #[(.agg #[.int .i64 64, .int .i64 16, .int .i64 265216]), .pointer (some ⟨p, 0, none⟩)] W fun e w' => e = .returned (.bool (decide (265216 ≤ x) && decide (x < 269312))) ∧ Below W.heap.size W w' := by
  go_enter Try.func25, Try.ntmps25
  by_cases h1 : 265216 ≤ x
  · go_wp2
    go_ret
    exact ⟨by simp [h1], (Below.refl _ _).alloc (Nat.le_refl _) _⟩
  · go_wp2
    go_ret
    exact ⟨by simp; omega, (Below.refl _ _).alloc (Nat.le_refl _) _⟩
theorem lies2_yes (x : Int) (p : Nat) (W : World) (h1 : 265216 ≤ x) (h2 : x < 269312) (h0 : W.cell? ⟨p, 0, none⟩ = some (.int .i64 x)) (l0 : p < W.heap.size) :
    Calls Try.prog 25 #[(.agg #[.int .i64 64, .int .i64 16, .int .i64 265216]), .pointer (some ⟨p, 0, none⟩)] W fun e w' => e = .returned (.bool true) ∧ Below W.heap.size W w' := by
  have := lies2 x p W h0 l0
  rw [decide_eq_true h1, decide_eq_true h2] at this
  exact this
theorem lies2_no (x : Int) (p : Nat) (W : World) (h1 : x < 265216 ∨ 269312 ≤ x) (h0 : W.cell? ⟨p, 0, none⟩ = some (.int .i64 x)) (l0 : p < W.heap.size) :
    Calls Try.prog 25 #[(.agg #[.int .i64 64, .int .i64 16, .int .i64 265216]), .pointer (some ⟨p, 0, none⟩)] W fun e w' => e = .returned (.bool false) ∧ Below W.heap.size W w' := by
  have := lies2 x p W h0 l0
  have e : (decide (265216 ≤ x) && decide (x < 269312)) = false := by simp; omega
  rw [e] at this
  exact this
theorem lies3 (x : Int) (p : Nat) (W : World) (h0 : W.cell? ⟨p, 0, none⟩ = some (.int .i64 x)) (l0 : p < W.heap.size) :
    Calls Try.prog 25 #[(.agg #[.int .i64 128, .int .i64 8, .int .i64 269312]), .pointer (some ⟨p, 0, none⟩)] W fun e w' => e = .returned (.bool (decide (269312 ≤ x) && decide (x < 273408))) ∧ Below W.heap.size W w' := by
  go_enter Try.func25, Try.ntmps25
  by_cases h1 : 269312 ≤ x
  · go_wp2
    go_ret
    exact ⟨by simp [h1], (Below.refl _ _).alloc (Nat.le_refl _) _⟩
  · go_wp2
    go_ret
    exact ⟨by simp; omega, (Below.refl _ _).alloc (Nat.le_refl _) _⟩
theorem lies3_yes (x : Int) (p : Nat) (W : World) (h1 : 269312 ≤ x) (h2 : x < 273408) (h0 : W.cell? ⟨p, 0, none⟩ = some (.int .i64 x)) (l0 : p < W.heap.size) :
    Calls Try.prog 25 #[(.agg #[.int .i64 128, .int .i64 8, .int .i64 269312]), .pointer (some ⟨p, 0, none⟩)] W fun e w' => e = .returned (.bool true) ∧ Below W.heap.size W w' := by
  have := lies3 x p W h0 l0
  rw [decide_eq_true h1, decide_eq_true h2] at this
  exact this
theorem lies3_no (x : Int) (p : Nat) (W : World) (h1 : x < 269312 ∨ 273408 ≤ x) (h0 : W.cell? ⟨p, 0, none⟩ = some (.int .i64 x)) (l0 : p < W.heap.size) :
    Calls Try.prog 25 #[(.agg #[.int .i64 128, .int .i64 8, .int .i64 269312]), .pointer (some ⟨p, 0, none⟩)] W fun e w' => e = .returned (.bool false) ∧ Below W.heap.size W w' := by
  have := lies3 x p W h0 l0
  have e : (decide (269312 ≤ x) && decide (x < 273408)) = false := by simp; omega
  rw [e] at this
  exact this
set_option maxRecDepth 100000 in
theorem find0 (hb b : Nat) (u : Nat → Bool) (k : Nat) (o : Int) (hk : k < 64) (ho : 0 ≤ o) (ho2 : o < 16) (W : World) (h1 : W.cell? ⟨hb, 1, none⟩ = some (.slice (some ⟨b, 0, none⟩) 64 64))
    (hu : W.cell? ⟨b, k, none⟩ = some (.bool (u k))) (l1 : hb < W.heap.size) (l2 : b < W.heap.size) :
    Calls Try.prog 22 #[.pointer (some ⟨hb, 0, none⟩), .int .i64 (262144 + 16 * (k : Int) + o)] W fun e w' => e = .returned (.tuple #[.int .i64 0, .int .i64 k, .int .i64 o, .bool (u k)]) ∧ Below W.heap.size W w' := by
  have i0 : ∀ w, (Instr.index 55 allV (.int .i64 0)).run Try.prog w = .ok (.agg #[.int .i64 4, .int .i64 64, .int .i64 262144]) w := fun _ => by kernel_rfl
  go_enter Try.func22, Try.ntmps22
  go_wp2_with (go_at_call 20; refine (all_calls _).mono ?_; rintro e W0 ⟨rfl, hb0⟩)
  have hc0 := (bcell hb0).1
  have hz : W.heap.size + 1 ≤ W0.heap.size := by have := hb0.size; simp at this; omega
  have B0 : Below W.heap.size W W0 := ((Below.refl _ _).alloc (Nat.le_refl _) _).trans (hb0.mono (by simp))
  have k1_0 := (hc0 hb 1 (by simp; omega)).trans ((World.cell?_alloc_past _ _ _ l1).trans h1)
  have ku_0 := (hc0 b k (by simp; omega)).trans ((World.cell?_alloc_past _ _ _ l2).trans hu)
  have kx_0 : W0.cell? ⟨W.heap.size, 0, none⟩ = some (.int .i64 (262144 + 16 * (k : Int) + o)) := (hc0 W.heap.size 0 (by simp)).trans (by simp)
  clear hc0 hb0
  have hz0 : hb < W0.heap.size := by omega
  have hz1 : b < W0.heap.size := by omega
  refine wp_loop_rounds 1 ?_
  rw [rounds_succ]
  go_wp2_with (go_at_call 25; refine (lies0_yes (262144 + 16 * (k : Int) + o) _ _ (by omega) (by omega) ((World.cell?_alloc_past _ _ _ (by omega)).trans kx_0) (by simp; omega)).mono ?_; rintro e W1 ⟨rfl, hb1⟩
               have hc1 := (bcell hb1).1
               have B1 : Below W.heap.size W W1 := (B0.alloc (by omega) _).trans (hb1.mono (by simp; omega))
               have hz10 : W.heap.size + 1 ≤ W1.heap.size := by have := hb1.size; simp at this; omega
               have k1_1 := (hc1 hb 1 (by simp; omega)).trans ((World.cell?_alloc_past _ _ _ (by omega)).trans k1_0)
               have ku_1 := (hc1 b k (by simp; omega)).trans ((World.cell?_alloc_past _ _ _ (by omega)).trans ku_0)
               have m1_1 : hb < W1.heap.size := by omega
               have m2_1 : b < W1.heap.size := by omega
               have kx_1 := (hc1 W.heap.size 0 (by simp; omega)).trans ((World.cell?_alloc_past _ _ _ (by omega)).trans kx_0)
               have j0 : W1.cell? ⟨W0.heap.size, 0, none⟩ = some (.int .i64 4) := (hc1 W0.heap.size 0 (by simp)).trans (by simp)
               have j1 : W1.cell? ⟨W0.heap.size, 1, none⟩ = some (.int .i64 64) := (hc1 W0.heap.size 1 (by simp)).trans (by simp)
               have j2 : W1.cell? ⟨W0.heap.size, 2, none⟩ = some (.int .i64 262144) := (hc1 W0.heap.size 2 (by simp)).trans (by simp)
               clear hc1 hb1 kx_0 k1_0 ku_0)
  have q5 : (262144 + 16 * (k : Int) + o - 262144) / 16 = k := by omega
  have r1 : IntKind.i64.wrap (262144 + 16 * (k : Int) + o - 262144) = 16 * k + o := by rw [IntWalk.i64_in _ (by omega)]; omega
  have r2 : IntKind.i64.wrap (16 * (k : Int)) = 16 * k := by rw [IntWalk.i64_in _ (by omega)]
  have r3 : IntKind.i64.wrap (16 * (k : Int) + o - 16 * k) = o := by rw [IntWalk.i64_in _ (by omega)]; omega
  rw [q5]
  clear q5
  go_quiet (fail)
  go_wp2
  exact bodyPost_ret (v := .tuple #[.int .i64 0, .int .i64 k, .int .i64 o, .bool (u k)]) (by simp [results, Try.results22, go_sem]) rfl ⟨rfl, below_drewN B1 _⟩
set_option maxRecDepth 100000 in
theorem find1 (hb b : Nat) (u : Nat → Bool) (k : Nat) (o : Int) (hk : k < 32) (ho : 0 ≤ o) (ho2 : o < 64) (W : World) (h1 : W.cell? ⟨hb, 2, none⟩ = some (.slice (some ⟨b, 0, none⟩) 32 32))
    (hu : W.cell? ⟨b, k, none⟩ = some (.bool (u k))) (l1 : hb < W.heap.size) (l2 : b < W.heap.size) :
    Calls Try.prog 22 #[.pointer (some ⟨hb, 0, none⟩), .int .i64 (263168 + 64 * (k : Int) + o)] W fun e w' => e = .returned (.tuple #[.int .i64 1, .int .i64 k, .int .i64 o, .bool (u k)]) ∧ Below W.heap.size W w' := by
  have i0 : ∀ w, (Instr.index 55 allV (.int .i64 0)).run Try.prog w = .ok (.agg #[.int .i64 4, .int .i64 64, .int .i64 262144]) w := fun _ => by kernel_rfl
  have i1 : ∀ w, (Instr.index 55 allV (.int .i64 1)).run Try.prog w = .ok (.agg #[.int .i64 16, .int .i64 32, .int .i64 263168]) w := fun _ => by kernel_rfl
  go_enter Try.func22, Try.ntmps22
  go_wp2_with (go_at_call 20; refine (all_calls _).mono ?_; rintro e W0 ⟨rfl, hb0⟩)
  have hc0 := (bcell hb0).1
  have hz : W.heap.size + 1 ≤ W0.heap.size := by have := hb0.size; simp at this; omega
  have B0 : Below W.heap.size W W0 := ((Below.refl _ _).alloc (Nat.le_refl _) _).trans (hb0.mono (by simp))
  have k1_0 := (hc0 hb 2 (by simp; omega)).trans ((World.cell?_alloc_past _ _ _ l1).trans h1)
  have ku_0 := (hc0 b k (by simp; omega)).trans ((World.cell?_alloc_past _ _ _ l2).trans hu)
  have kx_0 : W0.cell? ⟨W.heap.size, 0, none⟩ = some (.int .i64 (263168 + 64 * (k : Int) + o)) := (hc0 W.heap.size 0 (by simp)).trans (by simp)
  clear hc0 hb0
  have hz0 : hb < W0.heap.size := by omega
  have hz1 : b < W0.heap.size := by omega
  refine wp_loop_rounds 2 ?_
  rw [rounds_succ]
  go_wp2_with (go_at_call 25; refine (lies0_no (263168 + 64 * (k : Int) + o) _ _ (by omega) ((World.cell?_alloc_past _ _ _ (by omega)).trans kx_0) (by simp; omega)).mono ?_; rintro e W1 ⟨rfl, hb1⟩
               have hc1 := (bcell hb1).1
               have B1 : Below W.heap.size W W1 := (B0.alloc (by omega) _).trans (hb1.mono (by simp; omega))
               have hz10 : W.heap.size + 1 ≤ W1.heap.size := by have := hb1.size; simp at this; omega
               have k1_1 := (hc1 hb 2 (by simp; omega)).trans ((World.cell?_alloc_past _ _ _ (by omega)).trans k1_0)
               have ku_1 := (hc1 b k (by simp; omega)).trans ((World.cell?_alloc_past _ _ _ (by omega)).trans ku_0)
               have m1_1 : hb < W1.heap.size := by omega
               have m2_1 : b < W1.heap.size := by omega
               have kx_1 := (hc1 W.heap.size 0 (by simp; omega)).trans ((World.cell?_alloc_past _ _ _ (by omega)).trans kx_0)
               clear hc1 hb1 kx_0 k1_0 ku_0)
  rw [rounds_succ]
  go_wp2_with (go_at_call 25; refine (lies1_yes (263168 + 64 * (k : Int) + o) _ _ (by omega) (by omega) ((World.cell?_alloc_past _ _ _ (by omega)).trans kx_1) (by simp; omega)).mono ?_; rintro e W2 ⟨rfl, hb2⟩
               have hc2 := (bcell hb2).1
               have B2 : Below W.heap.size W W2 := (B1.alloc (by omega) _).trans (hb2.mono (by simp; omega))
               have hz11 : W.heap.size + 1 ≤ W2.heap.size := by have := hb2.size; simp at this; omega
               have k1_2 := (hc2 hb 2 (by simp; omega)).trans ((World.cell?_alloc_past _ _ _ (by omega)).trans k1_1)
               have ku_2 := (hc2 b k (by simp; omega)).trans ((World.cell?_alloc_past _ _ _ (by omega)).trans ku_1)
               have m1_2 : hb < W2.heap.size := by omega
               have m2_2 : b < W2.heap.size := by omega
               have kx_2 := (hc2 W.heap.size 0 (by simp; omega)).trans ((World.cell?_alloc_past _ _ _ (by omega)).trans kx_1)
               have j0 : W2.cell? ⟨W1.heap.size, 0, none⟩ = some (.int .i64 16) := (hc2 W1.heap.size 0 (by simp)).trans (by simp)
               have j1 : W2.cell? ⟨W1.heap.size, 1, none⟩ = some (.int .i64 32) := (hc2 W1.heap.size 1 (by simp)).trans (by simp)
               have j2 : W2.cell? ⟨W1.heap.size, 2, none⟩ = some (.int .i64 263168) := (hc2 W1.heap.size 2 (by simp)).trans (by simp)
               clear hc2 hb2 kx_1 k1_1 ku_1)
  have q5 : (263168 + 64 * (k : Int) + o - 263168) / 64 = k := by omega
  have r1 : IntKind.i64.wrap (263168 + 64 * (k : Int) + o - 263168) = 64 * k + o := by rw [IntWalk.i64_in _ (by omega)]; omega
  have r2 : IntKind.i64.wrap (64 * (k : Int)) = 64 * k := by rw [IntWalk.i64_in _ (by omega)]
  have r3 : IntKind.i64.wrap (64 * (k : Int) + o - 64 * k) = o := by rw [IntWalk.i64_in _ (by omega)]; omega
  rw [q5]
  clear q5
  go_quiet (fail)
  go_wp2
  exact bodyPost_ret (v := .tuple #[.int .i64 1, .int .i64 k, .int .i64 o, .bool (u k)]) (by simp [results, Try.results22, go_sem]) rfl ⟨rfl, below_drewN B2 _⟩
set_option maxRecDepth 100000 in
theorem find2 (hb b : Nat) (u : Nat → Bool) (k : Nat) (o : Int) (hk : k < 16) (ho : 0 ≤ o) (ho2 : o < 256) (W : World) (h1 : W.cell? ⟨hb, 3, none⟩ = some (.slice (some ⟨b, 0, none⟩) 16 16))
    (hu : W.cell? ⟨b, k, none⟩ = some (.bool (u k))) (l1 : hb < W.heap.size) (l2 : b < W.heap.size) :
    Calls Try.prog 22 #[.pointer (some ⟨hb, 0, none⟩), .int .i64 (265216 + 256 * (k : Int) + o)] W fun e w' => e = .returned (.tuple #[.int .i64 2, .int .i64 k, .int .i64 o, .bool (u k)]) ∧ Below W.heap.size W w' := by
  have i0 : ∀ w, (Instr.index 55 allV (.int .i64 0)).run Try.prog w = .ok (.agg #[.int .i64 4, .int .i64 64, .int .i64 262144]) w := fun _ => by kernel_rfl
  have i1 : ∀ w, (Instr.index 55 allV (.int .i64 1)).run Try.prog w = .ok (.agg #[.int .i64 16, .int .i64 32, .int .i64 263168]) w := fun _ => by kernel_rfl
  have i2 : ∀ w, (Instr.index 55 allV (.int .i64 2)).run Try.prog w = .ok (.agg #[.int .i64 64, .int .i64 16, .int .i64 265216]) w := fun _ => by kernel_rfl
  go_enter Try.func22, Try.ntmps22
  go_wp2_with (go_at_call 20; refine (all_calls _).mono ?_; rintro e W0 ⟨rfl, hb0⟩)
  have hc0 := (bcell hb0).1
  have hz : W.heap.size + 1 ≤ W0.heap.size := by have := hb0.size; simp at this; omega
  have B0 : Below W.heap.size W W0 := ((Below.refl _ _).alloc (Nat.le_refl _) _).trans (hb0.mono (by simp))
  have k1_0 := (hc0 hb 3 (by simp; omega)).trans ((World.cell?_alloc_past _ _ _ l1).trans h1)
  have ku_0 := (hc0 b k (by simp; omega)).trans ((World.cell?_alloc_past _ _ _ l2).trans hu)
  have kx_0 : W0.cell? ⟨W.heap.size, 0, none⟩ = some (.int .i64 (265216 + 256 * (k : Int) + o)) := (hc0 W.heap.size 0 (by simp)).trans (by simp)
  clear hc0 hb0
  have hz0 : hb < W0.heap.size := by omega
  have hz1 : b < W0.heap.size := by omega
  refine wp_loop_rounds 3 ?_
  rw [rounds_succ]
  go_wp2_with (go_at_call 25; refine (lies0_no (265216 + 256 * (k : Int) + o) _ _ (by omega) ((World.cell?_alloc_past _ _ _ (by omega)).trans kx_0) (by simp; omega)).mono ?_; rintro e W1 ⟨rfl, hb1⟩
               have hc1 := (bcell hb1).1
               have B1 : Below W.heap.size W W1 := (B0.alloc (by omega) _).trans (hb1.mono (by simp; omega))
               have hz10 : W.heap.size + 1 ≤ W1.heap.size := by have := hb1.size; simp at this; omega
               have k1_1 := (hc1 hb 3 (by simp; omega)).trans ((World.cell?_alloc_past _ _ _ (by omega)).trans k1_0)
               have ku_1 := (hc1 b k (by simp; omega)).trans ((World.cell?_alloc_past _ _ _ (by omega)).trans ku_0)
               have m1_1 : hb < W1.heap.size := by omega
               have m2_1 : b < W1.heap.size := by omega
               have kx_1 := (hc1 W.heap.size 0 (by simp; omega)).trans ((World.cell?_alloc_past _ _ _ (by omega)).trans kx_0)
               clear hc1 hb1 kx_0 k1_0 ku_0)
  rw [rounds_succ]
  go_wp2_with (go_at_call 25; refine (lies1_no (265216 + 256 * (k : Int) + o) _ _ (by omega) ((World.cell?_alloc_past _ _ _ (by omega)).trans kx_1) (by simp; omega)).mono ?_; rintro e W2 ⟨rfl, hb2⟩
               have hc2 := (bcell hb2).1
               have B2 : Below W.heap.size W W2 := (B1.alloc (by omega) _).trans (hb2.mono (by simp; omega))
               have hz11 : W.heap.size + 1 ≤ W2.heap.size := by have := hb2.size; simp at this; omega
               have k1_2 := (hc2 hb 3 (by simp; omega)).trans ((World.cell?_alloc_past _ _ _ (by omega)).trans k1_1)
               have ku_2 := (hc2 b k (by simp; omega)).trans ((World.cell?_alloc_past _ _ _ (by omega)).trans ku_1)
               have m1_2 : hb < W2.heap.size := by omega
               have m2_2 : b < W2.heap.size := by omega
               have kx_2 := (hc2 W.heap.size 0 (by simp; omega)).trans ((World.cell?_alloc_past _ _ _ (by omega)).trans kx_1)
               clear hc2 hb2 kx_1 k1_1 ku_1)
  rw [rounds_succ]
  go_wp2_with (go_at_call 25; refine (lies2_yes (265216 + 256 * (k : Int) + o) _ _ (by omega) (by omega) ((World.cell?_alloc_past _ _ _ (by omega)).trans kx_2) (by simp; omega)).mono ?_; rintro e W3 ⟨rfl, hb3⟩
               have hc3 := (bcell hb3).1
               have B3 : Below W.heap.size W W3 := (B2.alloc (by omega) _).trans (hb3.mono (by simp; omega))
               have hz12 : W.heap.size + 1 ≤ W3.heap.size := by have := hb3.size; simp at this; omega
               have k1_3 := (hc3 hb 3 (by simp; omega)).trans ((World.cell?_alloc_past _ _ _ (by omega)).trans k1_2)
               have ku_3 := (hc3 b k (by simp; omega)).trans ((World.cell?_alloc_past _ _ _ (by omega)).trans ku_2)
               have m1_3 : hb < W3.heap.size := by omega
               have m2_3 : b < W3.heap.size := by omega
               have kx_3 := (hc3 W.heap.size 0 (by simp; omega)).trans ((World.cell?_alloc_past _ _ _ (by omega)).trans kx_2)
               have j0 : W3.cell? ⟨W2.heap.size, 0, none⟩ = some (.int .i64 64) := (hc3 W2.heap.size 0 (by simp)).trans (by simp)
               have j1 : W3.cell? ⟨W2.heap.size, 1, none⟩ = some (.int .i64 16) := (hc3 W2.heap.size 1 (by simp)).trans (by simp)
               have j2 : W3.cell? ⟨W2.heap.size, 2, none⟩ = some (.int .i64 265216) := (hc3 W2.heap.size 2 (by simp)).trans (by simp)
               clear hc3 hb3 kx_2 k1_2 ku_2)
  have q5 : (265216 + 256 * (k : Int) + o - 265216) / 256 = k := by omega
  have r1 : IntKind.i64.wrap (265216 + 256 * (k : Int) + o - 265216) = 256 * k + o := by rw [IntWalk.i64_in _ (by omega)]; omega
  have r2 : IntKind.i64.wrap (256 * (k : Int)) = 256 * k := by rw [IntWalk.i64_in _ (by omega)]
  have r3 : IntKind.i64.wrap (256 * (k : Int) + o - 256 * k) = o := by rw [IntWalk.i64_in _ (by omega)]; omega
  rw [q5]
  clear q5
  go_quiet (fail)
  go_wp2
  exact bodyPost_ret (v := .tuple #[.int .i64 2, .int .i64 k, .int .i64 o, .bool (u k)]) (by simp [results, Try.results22, go_sem]) rfl ⟨rfl, below_drewN B3 _⟩
set_option maxRecDepth 100000 in
theorem find3 (hb b : Nat) (u : Nat → Bool) (k : Nat) (o : Int) (hk : k < 8) (ho : 0 ≤ o) (ho2 : o < 512) (W : World) (h1 : W.cell? ⟨hb, 4, none⟩ = some (.slice (some ⟨b, 0, none⟩) 8 8))
    (hu : W.cell? ⟨b, k, none⟩ = some (.bool (u k))) (l1 : hb < W.heap.size) (l2 : b < W.heap.size) :
    Calls Try.prog 22 #[.pointer (some ⟨hb, 0, none⟩), .int .i64 (269312 + 512 * (k : Int) + o)] W fun e w' => e = .returned (.tuple #[.int .i64 3, .int .i64 k, .int .i64 o, .bool (u k)]) ∧ Below W.heap.size W w' := by
  have i0 : ∀ w, (Instr.index 55 allV (.int .i64 0)).run Try.prog w = .ok (.agg #[.int .i64 4, .int .i64 64, .int .i64 262144]) w := fun _ => by kernel_rfl
  have i1 : ∀ w, (Instr.index 55 allV (.int .i64 1)).run Try.prog w = .ok (.agg #[.int .i64 16, .int .i64 32, .int .i64 263168]) w := fun _ => by kernel_rfl
  have i2 : ∀ w, (Instr.index 55 allV (.int .i64 2)).run Try.prog w = .ok (.agg #[.int .i64 64, .int .i64 16, .int .i64 265216]) w := fun _ => by kernel_rfl
  have i3 : ∀ w, (Instr.index 55 allV (.int .i64 3)).run Try.prog w = .ok (.agg #[.int .i64 128, .int .i64 8, .int .i64 269312]) w := fun _ => by kernel_rfl
  go_enter Try.func22, Try.ntmps22
  go_wp2_with (go_at_call 20; refine (all_calls _).mono ?_; rintro e W0 ⟨rfl, hb0⟩)
  have hc0 := (bcell hb0).1
  have hz : W.heap.size + 1 ≤ W0.heap.size := by have := hb0.size; simp at this; omega
  have B0 : Below W.heap.size W W0 := ((Below.refl _ _).alloc (Nat.le_refl _) _).trans (hb0.mono (by simp))
  have k1_0 := (hc0 hb 4 (by simp; omega)).trans ((World.cell?_alloc_past _ _ _ l1).trans h1)
  have ku_0 := (hc0 b k (by simp; omega)).trans ((World.cell?_alloc_past _ _ _ l2).trans hu)
  have kx_0 : W0.cell? ⟨W.heap.size, 0, none⟩ = some (.int .i64 (269312 + 512 * (k : Int) + o)) := (hc0 W.heap.size 0 (by simp)).trans (by simp)
  clear hc0 hb0
  have hz0 : hb < W0.heap.size := by omega
  have hz1 : b < W0.heap.size := by omega
  refine wp_loop_rounds 4 ?_
  rw [rounds_succ]
  go_wp2_with (go_at_call 25; refine (lies0_no (269312 + 512 * (k : Int) + o) _ _ (by omega) ((World.cell?_alloc_past _ _ _ (by omega)).trans kx_0) (by simp; omega)).mono ?_; rintro e W1 ⟨rfl, hb1⟩
               have hc1 := (bcell hb1).1
               have B1 : Below W.heap.size W W1 := (B0.alloc (by omega) _).trans (hb1.mono (by simp; omega))
               have hz10 : W.heap.size + 1 ≤ W1.heap.size := by have := hb1.size; simp at this; omega
               have k1_1 := (hc1 hb 4 (by simp; omega)).trans ((World.cell?_alloc_past _ _ _ (by omega)).trans k1_0)
               have ku_1 := (hc1 b k (by simp; omega)).trans ((World.cell?_alloc_past _ _ _ (by omega)).trans ku_0)
               have m1_1 : hb < W1.heap.size := by omega
               have m2_1 : b < W1.heap.size := by omega
               have kx_1 := (hc1 W.heap.size 0 (by simp; omega)).trans ((World.cell?_alloc_past _ _ _ (by omega)).trans kx_0)
               clear hc1 hb1 kx_0 k1_0 ku_0)
  rw [rounds_succ]
  go_wp2_with (go_at_call 25; refine (lies1_no (269312 + 512 * (k : Int) + o) _ _ (by omega) ((World.cell?_alloc_past _ _ _ (by omega)).trans kx_1) (by simp; omega)).mono ?_; rintro e W2 ⟨rfl, hb2⟩
               have hc2 := (bcell hb2).1
               have B2 : Below W.heap.size W W2 := (B1.alloc (by omega) _).trans (hb2.mono (by simp; omega))
               have hz11 : W.heap.size + 1 ≤ W2.heap.size := by have := hb2.size; simp at this; omega
               have k1_2 := (hc2 hb 4 (by simp; omega)).trans ((World.cell?_alloc_past _ _ _ (by omega)).trans k1_1)
               have ku_2 := (hc2 b k (by simp; omega)).trans ((World.cell?_alloc_past _ _ _ (by omega)).trans ku_1)
               have m1_2 : hb < W2.heap.size := by omega
               have m2_2 : b < W2.heap.size := by omega
               have kx_2 := (hc2 W.heap.size 0 (by simp; omega)).trans ((World.cell?_alloc_past _ _ _ (by omega)).trans kx_1)
               clear hc2 hb2 kx_1 k1_1 ku_1)
  rw [rounds_succ]
  go_wp2_with (go_at_call 25; refine (lies2_no (269312 + 512 * (k : Int) + o) _ _ (by omega) ((World.cell?_alloc_past _ _ _ (by omega)).trans kx_2) (by simp; omega)).mono ?_; rintro e W3 ⟨rfl, hb3⟩
               have hc3 := (bcell hb3).1
               have B3 : Below W.heap.size W W3 := (B2.alloc (by omega) _).trans (hb3.mono (by simp; omega))
               have hz12 : W.heap.size + 1 ≤ W3.heap.size := by have := hb3.size; simp at this; omega
               have k1_3 := (hc3 hb 4 (by simp; omega)).trans ((World.cell?_alloc_past _ _ _ (by omega)).trans k1_2)
               have ku_3 := (hc3 b k (by simp; omega)).trans ((World.cell?_alloc_past _ _ _ (by omega)).trans ku_2)
               have m1_3 : hb < W3.heap.size := by omega
               have m2_3 : b < W3.heap.size := by omega
               have kx_3 := (hc3 W.heap.size 0 (by simp; omega)).trans ((World.cell?_alloc_past _ _ _ (by omega)).trans kx_2)
               clear hc3 hb3 kx_2 k1_2 ku_2)
  rw [rounds_succ]
  go_wp2_with (go_at_call 25; refine (lies3_yes (269312 + 512 * (k : Int) + o) _ _ (by omega) (by omega) ((World.cell?_alloc_past _ _ _ (by omega)).trans kx_3) (by simp; omega)).mono ?_; rintro e W4 ⟨rfl, hb4⟩
               have hc4 := (bcell hb4).1
               have B4 : Below W.heap.size W W4 := (B3.alloc (by omega) _).trans (hb4.mono (by simp; omega))
               have hz13 : W.heap.size + 1 ≤ W4.heap.size := by have := hb4.size; simp at this; omega
               have k1_4 := (hc4 hb 4 (by simp; omega)).trans ((World.cell?_alloc_past _ _ _ (by omega)).trans k1_3)
               have ku_4 := (hc4 b k (by simp; omega)).trans ((World.cell?_alloc_past _ _ _ (by omega)).trans ku_3)
               have m1_4 : hb < W4.heap.size := by omega
               have m2_4 : b < W4.heap.size := by omega
               have kx_4 := (hc4 W.heap.size 0 (by simp; omega)).trans ((World.cell?_alloc_past _ _ _ (by omega)).trans kx_3)
               have j0 : W4.cell? ⟨W3.heap.size, 0, none⟩ = some (.int .i64 128) := (hc4 W3.heap.size 0 (by simp)).trans (by simp)
               have j1 : W4.cell? ⟨W3.heap.size, 1, none⟩ = some (.int .i64 8) := (hc4 W3.heap.size 1 (by simp)).trans (by simp)
               have j2 : W4.cell? ⟨W3.heap.size, 2, none⟩ = some (.int .i64 269312) := (hc4 W3.heap.size 2 (by simp)).trans (by simp)
               clear hc4 hb4 kx_3 k1_3 ku_3)
  have q5 : (269312 + 512 * (k : Int) + o - 269312) / 512 = k := by omega
  have r1 : IntKind.i64.wrap (269312 + 512 * (k : Int) + o - 269312) = 512 * k + o := by rw [IntWalk.i64_in _ (by omega)]; omega
  have r2 : IntKind.i64.wrap (512 * (k : Int)) = 512 * k := by rw [IntWalk.i64_in _ (by omega)]
  have r3 : IntKind.i64.wrap (512 * (k : Int) + o - 512 * k) = o := by rw [IntWalk.i64_in _ (by omega)]; omega
  rw [q5]
  clear q5
  go_quiet (fail)
  go_wp2
  exact bodyPost_ret (v := .tuple #[.int .i64 3, .int .i64 k, .int .i64 o, .bool (u k)]) (by simp [results, Try.results22, go_sem]) rfl ⟨rfl, below_drewN B4 _⟩
set_option maxRecDepth 100000 in
theorem find_no (hb : Nat) (x : Int) (hx : x < 262144 ∨ 273408 ≤ x) (W : World) :
    Calls Try.prog 22 #[.pointer (some ⟨hb, 0, none⟩), .int .i64 x] W fun e w' => e = .returned (.tuple #[.int .i64 0, .int .i64 0, .int .i64 0, .bool false]) ∧ Below W.heap.size W w' := by
  have i0 : ∀ w, (Instr.index 55 allV (.int .i64 0)).run Try.prog w = .ok (.agg #[.int .i64 4, .int .i64 64, .int .i64 262144]) w := fun _ => by kernel_rfl
  have i1 : ∀ w, (Instr.index 55 allV (.int .i64 1)).run Try.prog w = .ok (.agg #[.int .i64 16, .int .i64 32, .int .i64 263168]) w := fun _ => by kernel_rfl
  have i2 : ∀ w, (Instr.index 55 allV (.int .i64 2)).run Try.prog w = .ok (.agg #[.int .i64 64, .int .i64 16, .int .i64 265216]) w := fun _ => by kernel_rfl
  have i3 : ∀ w, (Instr.index 55 allV (.int .i64 3)).run Try.prog w = .ok (.agg #[.int .i64 128, .int .i64 8, .int .i64 269312]) w := fun _ => by kernel_rfl
  go_enter Try.func22, Try.ntmps22
  go_wp2_with (go_at_call 20; refine (all_calls _).mono ?_; rintro e W0 ⟨rfl, hb0⟩)
  have hc0 := (bcell hb0).1
  have hz : W.heap.size + 1 ≤ W0.heap.size := by have := hb0.size; simp at this; omega
  have B0 : Below W.heap.size W W0 := ((Below.refl _ _).alloc (Nat.le_refl _) _).trans (hb0.mono (by simp))
  have kx_0 : W0.cell? ⟨W.heap.size, 0, none⟩ = some (.int .i64 x) := (hc0 W.heap.size 0 (by simp)).trans (by simp)
  clear hc0 hb0
  refine wp_loop_rounds 5 ?_
  rw [rounds_succ]
  go_wp2_with (go_at_call 25; refine (lies0_no x _ _ (by omega) ((World.cell?_alloc_past _ _ _ (by omega)).trans kx_0) (by simp; omega)).mono ?_; rintro e W1 ⟨rfl, hb1⟩
               have hc1 := (bcell hb1).1
               have B1 : Below W.heap.size W W1 := (B0.alloc (by omega) _).trans (hb1.mono (by simp; omega))
               have hz10 : W.heap.size + 1 ≤ W1.heap.size := by have := hb1.size; simp at this; omega
               have kx_1 := (hc1 W.heap.size 0 (by simp; omega)).trans ((World.cell?_alloc_past _ _ _ (by omega)).trans kx_0)
               clear hc1 hb1 kx_0)
  rw [rounds_succ]
  go_wp2_with (go_at_call 25; refine (lies1_no x _ _ (by omega) ((World.cell?_alloc_past _ _ _ (by omega)).trans kx_1) (by simp; omega)).mono ?_; rintro e W2 ⟨rfl, hb2⟩
               have hc2 := (bcell hb2).1
               have B2 : Below W.heap.size W W2 := (B1.alloc (by omega) _).trans (hb2.mono (by simp; omega))
               have hz11 : W.heap.size + 1 ≤ W2.heap.size := by have := hb2.size; simp at this; omega
               have kx_2 := (hc2 W.heap.size 0 (by simp; omega)).trans ((World.cell?_alloc_past _ _ _ (by omega)).trans kx_1)
               clear hc2 hb2 kx_1)
  rw [rounds_succ]
  go_wp2_with (go_at_call 25; refine (lies2_no x _ _ (by omega) ((World.cell?_alloc_past _ _ _ (by omega)).trans kx_2) (by simp; omega)).mono ?_; rintro e W3 ⟨rfl, hb3⟩
               have hc3 := (bcell hb3).1
               have B3 : Below W.heap.size W W3 := (B2.alloc (by omega) _).trans (hb3.mono (by simp; omega))
               have hz12 : W.heap.size + 1 ≤ W3.heap.size := by have := hb3.size; simp at this; omega
               have kx_3 := (hc3 W.heap.size 0 (by simp; omega)).trans ((World.cell?_alloc_past _ _ _ (by omega)).trans kx_2)
               clear hc3 hb3 kx_2)
  rw [rounds_succ]
  go_wp2_with (go_at_call 25; refine (lies3_no x _ _ (by omega) ((World.cell?_alloc_past _ _ _ (by omega)).trans kx_3) (by simp; omega)).mono ?_; rintro e W4 ⟨rfl, hb4⟩
               have hc4 := (bcell hb4).1
               have B4 : Below W.heap.size W W4 := (B3.alloc (by omega) _).trans (hb4.mono (by simp; omega))
               have hz13 : W.heap.size + 1 ≤ W4.heap.size := by have := hb4.size; simp at this; omega
               have kx_4 := (hc4 W.heap.size 0 (by simp; omega)).trans ((World.cell?_alloc_past _ _ _ (by omega)).trans kx_3)
               clear hc4 hb4 kx_3)
  rw [rounds_succ]
  go_wp2
  exact bodyPost_ret (v := .tuple #[.int .i64 0, .int .i64 0, .int .i64 0, .bool false]) (by simp [results, Try.results22, go_sem]) rfl ⟨rfl, B4⟩
end Go.Proofs.Ytlpdemdakcjjjaa.W
namespace Go.Proofs.Ytlpdemdakcjjjaa.W
open Go Go.RowKit Go.Proofs Go.Proofs.Ytlpdemdakcjjjaa.Sx
set_option linter.unusedVariables false
set_option linter.unusedSimpArgs false
/-- What find told. -/
def Found (W : World) (c k o : Int) (ok : Bool) (e : Ending) (w' : World) : Prop := e = .returned (.tuple #[.int .i64 c, .int .i64 k, .int .i64 o, .bool ok]) ∧ Below W.heap.size W w'
theorem free_err (hb : Nat) (x c k o : Int) (ok : Bool) (W : World) (h0 : W.cell? ⟨hb, 0, none⟩ = some (.bool true)) (hF : Calls Try.prog 22 #[.pointer (some ⟨hb, 0, none⟩), .int .i64 x] W (Found W c k o ok)) (h : ok = false ∨ ok = true ∧ o ≠ 0) :
    Calls Try.prog 10 #[.pointer (some ⟨hb, 0, none⟩), .int .i64 x] W fun e w' => e = .returned (.int .i64 13) ∧ Below W.heap.size W w' := by
  rcases h with rfl | ⟨rfl, h⟩
  · go_enter Try.func10, Try.ntmps10
    go_wp2_with (first | (go_at_call 21; refine (none_any hb _ h0).mono ?_; rintro e w' ⟨rfl, rfl⟩) | (go_at_call 22; refine hF.mono ?_; rintro e W1 ⟨rfl, hb1⟩))
    go_ret
    exact ⟨rfl, hb1⟩
  · have ho : (o == 0) = false := by simpa using h
    have ho2 : (o != 0) = true := by simpa using h
    go_enter Try.func10, Try.ntmps10
    go_wp2_with (first | (go_at_call 21; refine (none_any hb _ h0).mono ?_; rintro e w' ⟨rfl, rfl⟩) | (go_at_call 22; refine hF.mono ?_; rintro e W1 ⟨rfl, hb1⟩))
    go_ret
    exact ⟨rfl, hb1⟩
theorem free0 (hb b : Nat) (k : Nat) (x : Int) (hk : k < 64) (W : World) (h0 : W.cell? ⟨hb, 0, none⟩ = some (.bool true)) (h1 : W.cell? ⟨hb, 1, none⟩ = some (.slice (some ⟨b, 0, none⟩) 64 64))
    (hu : W.cell? ⟨b, k, none⟩ = some (.bool true)) (hf : W.frozen? ⟨b, k, none⟩ = false) (l1 : hb < W.heap.size) (l2 : b < W.heap.size) (hF : Calls Try.prog 22 #[.pointer (some ⟨hb, 0, none⟩), .int .i64 x] W (Found W 0 k 0 true)) :
    Calls Try.prog 10 #[.pointer (some ⟨hb, 0, none⟩), .int .i64 x] W fun e w' => e = .returned (.int .i64 0) ∧ ∃ W1, Below W.heap.size W W1 ∧ w' = W1.setCell ⟨b, k, none⟩ (.bool false) := by
  go_enter Try.func10, Try.ntmps10
  go_wp2_with (first | (go_at_call 21; refine (none_any hb _ h0).mono ?_; rintro e w' ⟨rfl, rfl⟩) | (go_at_call 22; refine hF.mono ?_; rintro e W1 ⟨rfl, hb1⟩; obtain ⟨hc1, hf1⟩ := bcell hb1; have k1 := (hc1 hb 1 l1).trans h1; have ku := (hc1 b k l2).trans hu; have kf := (hf1 b k l2).trans hf; clear hc1 hf1))
  go_ret
  exact ⟨rfl, W1, hb1, rfl⟩
theorem free1 (hb b : Nat) (k : Nat) (x : Int) (hk : k < 32) (W : World) (h0 : W.cell? ⟨hb, 0, none⟩ = some (.bool true)) (h1 : W.cell? ⟨hb, 2, none⟩ = some (.slice (some ⟨b, 0, none⟩) 32 32))
    (hu : W.cell? ⟨b, k, none⟩ = some (.bool true)) (hf : W.frozen? ⟨b, k, none⟩ = false) (l1 : hb < W.heap.size) (l2 : b < W.heap.size) (hF : Calls Try.prog 22 #[.pointer (some ⟨hb, 0, none⟩), .int .i64 x] W (Found W 1 k 0 true)) :
    Calls Try.prog 10 #[.pointer (some ⟨hb, 0, none⟩), .int .i64 x] W fun e w' => e = .returned (.int .i64 0) ∧ ∃ W1, Below W.heap.size W W1 ∧ w' = W1.setCell ⟨b, k, none⟩ (.bool false) := by
  go_enter Try.func10, Try.ntmps10
  go_wp2_with (first | (go_at_call 21; refine (none_any hb _ h0).mono ?_; rintro e w' ⟨rfl, rfl⟩) | (go_at_call 22; refine hF.mono ?_; rintro e W1 ⟨rfl, hb1⟩; obtain ⟨hc1, hf1⟩ := bcell hb1; have k1 := (hc1 hb 2 l1).trans h1; have ku := (hc1 b k l2).trans hu; have kf := (hf1 b k l2).trans hf; clear hc1 hf1))
  go_ret
  exact ⟨rfl, W1, hb1, rfl⟩
theorem free2 (hb b : Nat) (k : Nat) (x : Int) (hk : k < 16) (W : World) (h0 : W.cell? ⟨hb, 0, none⟩ = some (.bool true)) (h1 : W.cell? ⟨hb, 3, none⟩ = some (.slice (some ⟨b, 0, none⟩) 16 16))
    (hu : W.cell? ⟨b, k, none⟩ = some (.bool true)) (hf : W.frozen? ⟨b, k, none⟩ = false) (l1 : hb < W.heap.size) (l2 : b < W.heap.size) (hF : Calls Try.prog 22 #[.pointer (some ⟨hb, 0, none⟩), .int .i64 x] W (Found W 2 k 0 true)) :
    Calls Try.prog 10 #[.pointer (some ⟨hb, 0, none⟩), .int .i64 x] W fun e w' => e = .returned (.int .i64 0) ∧ ∃ W1, Below W.heap.size W W1 ∧ w' = W1.setCell ⟨b, k, none⟩ (.bool false) := by
  go_enter Try.func10, Try.ntmps10
  go_wp2_with (first | (go_at_call 21; refine (none_any hb _ h0).mono ?_; rintro e w' ⟨rfl, rfl⟩) | (go_at_call 22; refine hF.mono ?_; rintro e W1 ⟨rfl, hb1⟩; obtain ⟨hc1, hf1⟩ := bcell hb1; have k1 := (hc1 hb 3 l1).trans h1; have ku := (hc1 b k l2).trans hu; have kf := (hf1 b k l2).trans hf; clear hc1 hf1))
  go_ret
  exact ⟨rfl, W1, hb1, rfl⟩
theorem free3 (hb b : Nat) (k : Nat) (x : Int) (hk : k < 8) (W : World) (h0 : W.cell? ⟨hb, 0, none⟩ = some (.bool true)) (h1 : W.cell? ⟨hb, 4, none⟩ = some (.slice (some ⟨b, 0, none⟩) 8 8))
    (hu : W.cell? ⟨b, k, none⟩ = some (.bool true)) (hf : W.frozen? ⟨b, k, none⟩ = false) (l1 : hb < W.heap.size) (l2 : b < W.heap.size) (hF : Calls Try.prog 22 #[.pointer (some ⟨hb, 0, none⟩), .int .i64 x] W (Found W 3 k 0 true)) :
    Calls Try.prog 10 #[.pointer (some ⟨hb, 0, none⟩), .int .i64 x] W fun e w' => e = .returned (.int .i64 0) ∧ ∃ W1, Below W.heap.size W W1 ∧ w' = W1.setCell ⟨b, k, none⟩ (.bool false) := by
  go_enter Try.func10, Try.ntmps10
  go_wp2_with (first | (go_at_call 21; refine (none_any hb _ h0).mono ?_; rintro e w' ⟨rfl, rfl⟩) | (go_at_call 22; refine hF.mono ?_; rintro e W1 ⟨rfl, hb1⟩; obtain ⟨hc1, hf1⟩ := bcell hb1; have k1 := (hc1 hb 4 l1).trans h1; have ku := (hc1 b k l2).trans hu; have kf := (hf1 b k l2).trans hf; clear hc1 hf1))
  go_ret
  exact ⟨rfl, W1, hb1, rfl⟩
/-- How many are true. -/
def cnt (u : Nat → Bool) : Nat → Nat
  | 0 => 0
  | k + 1 => cnt u k + if u k = true then 1 else 0
theorem cnt_le (u : Nat → Bool) : ∀ k, cnt u k ≤ k
  | 0 => Nat.le_refl _
  | k + 1 => by have := cnt_le u k; unfold cnt; split <;> omega
theorem cnt_true {u : Nat → Bool} {k : Nat} (h : u k = true) : cnt u (k + 1) = cnt u k + 1 := by simp [cnt, h]
theorem cnt_false {u : Nat → Bool} {k : Nat} (h : u k = false) : cnt u (k + 1) = cnt u k := by simp [cnt, h]
theorem live_no (hb : Nat) (k : Int) (hk : k < 0 ∨ 4 ≤ k) (W : World) (h0 : W.cell? ⟨hb, 0, none⟩ = some (.bool true)) :
    Calls Try.prog 11 #[.pointer (some ⟨hb, 0, none⟩), .int .i64 k] W fun e w' => e = .returned (.int .i64 0) ∧ w' = W := by
  rcases hk with hk | hk
  · have e1 : decide (k < 0) = true := by simpa using hk
    go_enter Try.func11, Try.ntmps11
    go_wp2_with (go_at_call 21; refine (none_any hb _ h0).mono ?_; rintro e w' ⟨rfl, rfl⟩)
    go_ret
    exact ⟨rfl, rfl⟩
  · have e1 : decide (k < 0) = false := by simp; omega
    have e2 : decide (4 ≤ k) = true := by simpa using hk
    go_enter Try.func11, Try.ntmps11
    go_wp2_with (go_at_call 21; refine (none_any hb _ h0).mono ?_; rintro e w' ⟨rfl, rfl⟩)
    go_ret
    exact ⟨rfl, rfl⟩
theorem live0 (hb b : Nat) (u : Nat → Bool) (W : World) (h0 : W.cell? ⟨hb, 0, none⟩ = some (.bool true)) (h1 : W.cell? ⟨hb, 1, none⟩ = some (.slice (some ⟨b, 0, none⟩) 64 64))
    (hu : ∀ i, i < 64 → W.cell? ⟨b, i, none⟩ = some (.bool (u i))) :
    Calls Try.prog 11 #[.pointer (some ⟨hb, 0, none⟩), .int .i64 0] W fun e w' => e = .returned (.int .i64 (cnt u 64)) ∧ w' = W := by
  go_enter Try.func11, Try.ntmps11
  go_wp2_with (go_at_call 21; refine (none_any hb _ h0).mono ?_; rintro e w' ⟨rfl, rfl⟩)
  go_loop [5, 26] (fun t i => ∃ k : Nat, k ≤ 64 ∧ i = .int .i64 k ∧ t = .int .i64 (cnt u k)) (fun _ i => 64 - (intOf i).toNat)
  case atStart => exact ⟨0, Nat.zero_le _, rfl, rfl⟩
  case round =>
    obtain ⟨k, hk, rfl, rfl⟩ := hrel
    have hle := cnt_le u k
    by_cases hlt : k < 64
    · have hcell := hu k hlt
      clear hu
      cases hq : u k with
      | true =>
        rw [hq] at hcell
        have HS := Lib.hid (cnt_true hq)
        go_wp2
        go_round
        case rel => exact ⟨k + 1, by omega, by go_num, by rw [HS.out]; go_num⟩
        case measure => simp [intOf]; omega
      | false =>
        rw [hq] at hcell
        have HS := Lib.hid (cnt_false hq)
        go_wp2
        go_round
        case rel => exact ⟨k + 1, by omega, by go_num, by rw [HS.out]⟩
        case measure => simp [intOf]; omega
    · obtain rfl : k = 64 := by omega
      go_wp2
      go_ret
      exact ⟨rfl, rfl⟩
theorem live1 (hb b : Nat) (u : Nat → Bool) (W : World) (h0 : W.cell? ⟨hb, 0, none⟩ = some (.bool true)) (h1 : W.cell? ⟨hb, 2, none⟩ = some (.slice (some ⟨b, 0, none⟩) 32 32))
    (hu : ∀ i, i < 32 → W.cell? ⟨b, i, none⟩ = some (.bool (u i))) :
    Calls Try.prog 11 #[.pointer (some ⟨hb, 0, none⟩), .int .i64 1] W fun e w' => e = .returned (.int .i64 (cnt u 32)) ∧ w' = W := by
  go_enter Try.func11, Try.ntmps11
  go_wp2_with (go_at_call 21; refine (none_any hb _ h0).mono ?_; rintro e w' ⟨rfl, rfl⟩)
  go_loop [5, 26] (fun t i => ∃ k : Nat, k ≤ 32 ∧ i = .int .i64 k ∧ t = .int .i64 (cnt u k)) (fun _ i => 32 - (intOf i).toNat)
  case atStart => exact ⟨0, Nat.zero_le _, rfl, rfl⟩
  case round =>
    obtain ⟨k, hk, rfl, rfl⟩ := hrel
    have hle := cnt_le u k
    by_cases hlt : k < 32
    · have hcell := hu k hlt
      clear hu
      cases hq : u k with
      | true =>
        rw [hq] at hcell
        have HS := Lib.hid (cnt_true hq)
        go_wp2
        go_round
        case rel => exact ⟨k + 1, by omega, by go_num, by rw [HS.out]; go_num⟩
        case measure => simp [intOf]; omega
      | false =>
        rw [hq] at hcell
        have HS := Lib.hid (cnt_false hq)
        go_wp2
        go_round
        case rel => exact ⟨k + 1, by omega, by go_num, by rw [HS.out]⟩
        case measure => simp [intOf]; omega
    · obtain rfl : k = 32 := by omega
      go_wp2
      go_ret
      exact ⟨rfl, rfl⟩
theorem live2 (hb b : Nat) (u : Nat → Bool) (W : World) (h0 : W.cell? ⟨hb, 0, none⟩ = some (.bool true)) (h1 : W.cell? ⟨hb, 3, none⟩ = some (.slice (some ⟨b, 0, none⟩) 16 16))
    (hu : ∀ i, i < 16 → W.cell? ⟨b, i, none⟩ = some (.bool (u i))) :
    Calls Try.prog 11 #[.pointer (some ⟨hb, 0, none⟩), .int .i64 2] W fun e w' => e = .returned (.int .i64 (cnt u 16)) ∧ w' = W := by
  go_enter Try.func11, Try.ntmps11
  go_wp2_with (go_at_call 21; refine (none_any hb _ h0).mono ?_; rintro e w' ⟨rfl, rfl⟩)
  go_loop [5, 26] (fun t i => ∃ k : Nat, k ≤ 16 ∧ i = .int .i64 k ∧ t = .int .i64 (cnt u k)) (fun _ i => 16 - (intOf i).toNat)
  case atStart => exact ⟨0, Nat.zero_le _, rfl, rfl⟩
  case round =>
    obtain ⟨k, hk, rfl, rfl⟩ := hrel
    have hle := cnt_le u k
    by_cases hlt : k < 16
    · have hcell := hu k hlt
      clear hu
      cases hq : u k with
      | true =>
        rw [hq] at hcell
        have HS := Lib.hid (cnt_true hq)
        go_wp2
        go_round
        case rel => exact ⟨k + 1, by omega, by go_num, by rw [HS.out]; go_num⟩
        case measure => simp [intOf]; omega
      | false =>
        rw [hq] at hcell
        have HS := Lib.hid (cnt_false hq)
        go_wp2
        go_round
        case rel => exact ⟨k + 1, by omega, by go_num, by rw [HS.out]⟩
        case measure => simp [intOf]; omega
    · obtain rfl : k = 16 := by omega
      go_wp2
      go_ret
      exact ⟨rfl, rfl⟩
theorem live3 (hb b : Nat) (u : Nat → Bool) (W : World) (h0 : W.cell? ⟨hb, 0, none⟩ = some (.bool true)) (h1 : W.cell? ⟨hb, 4, none⟩ = some (.slice (some ⟨b, 0, none⟩) 8 8))
    (hu : ∀ i, i < 8 → W.cell? ⟨b, i, none⟩ = some (.bool (u i))) :
    Calls Try.prog 11 #[.pointer (some ⟨hb, 0, none⟩), .int .i64 3] W fun e w' => e = .returned (.int .i64 (cnt u 8)) ∧ w' = W := by
  go_enter Try.func11, Try.ntmps11
  go_wp2_with (go_at_call 21; refine (none_any hb _ h0).mono ?_; rintro e w' ⟨rfl, rfl⟩)
  go_loop [5, 26] (fun t i => ∃ k : Nat, k ≤ 8 ∧ i = .int .i64 k ∧ t = .int .i64 (cnt u k)) (fun _ i => 8 - (intOf i).toNat)
  case atStart => exact ⟨0, Nat.zero_le _, rfl, rfl⟩
  case round =>
    obtain ⟨k, hk, rfl, rfl⟩ := hrel
    have hle := cnt_le u k
    by_cases hlt : k < 8
    · have hcell := hu k hlt
      clear hu
      cases hq : u k with
      | true =>
        rw [hq] at hcell
        have HS := Lib.hid (cnt_true hq)
        go_wp2
        go_round
        case rel => exact ⟨k + 1, by omega, by go_num, by rw [HS.out]; go_num⟩
        case measure => simp [intOf]; omega
      | false =>
        rw [hq] at hcell
        have HS := Lib.hid (cnt_false hq)
        go_wp2
        go_round
        case rel => exact ⟨k + 1, by omega, by go_num, by rw [HS.out]⟩
        case measure => simp [intOf]; omega
    · obtain rfl : k = 8 := by omega
      go_wp2
      go_ret
      exact ⟨rfl, rfl⟩
end Go.Proofs.Ytlpdemdakcjjjaa.W
