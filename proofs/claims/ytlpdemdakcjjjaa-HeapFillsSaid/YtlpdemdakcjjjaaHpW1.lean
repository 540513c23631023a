/- The heap's walks: none, lies, Alloc. -/
import Derived.Test.YtlpdemdakcjjjaaHpEng
import Derived.WalkKit
import Derived.Lib.Hide
import Derived.LoopTactic
import Derived.Deep.QuietTactic
import Derived.BigQuiet
namespace Go.Proofs.Ytlpdemdakcjjjaa.W
open Go Go.RowKit Go.Proofs Go.Proofs.Ytlpdemdakcjjjaa.Sx
set_option linter.unusedVariables false
set_option linter.unusedSimpArgs false
theorem bcell {W w1 : World} (hb : Below W.heap.size W w1) : (∀ b o, b < W.heap.size → w1.cell? ⟨b, o, none⟩ = W.cell? ⟨b, o, none⟩) ∧ (∀ b o, b < W.heap.size → w1.frozen? ⟨b, o, none⟩ = W.frozen? ⟨b, o, none⟩) :=
  ⟨fun b o h => hb.cell (p := ⟨b, o, none⟩) h, fun b o h => hb.frozen (p := ⟨b, o, none⟩) h⟩
theorem none_any (hb : Nat) (W : World) (h0 : W.cell? ⟨hb, 0, none⟩ = some (.bool true)) :
    Calls Try.prog 21 #[.pointer (some ⟨hb, 0, none⟩)] W fun e w' => e = .returned (.bool false) ∧ w' = W := by
  go_enter Try.func21, Try.ntmps21
  go_wp2
  go_ret
  exact ⟨rfl, rfl⟩
/-- What Alloc leaves: the first block that is not in use is; or none is left. -/
def AllocTo (W : World) (b : Nat) (u : Nat → Bool) (n : Nat) (at0 size : Int) (e : Ending) (W' : World) : Prop :=
  (∃ i : Nat, i < n ∧ u i = false ∧ (∀ j, j < i → u j = true) ∧ e = .returned (.tuple #[.int .i64 (at0 + size * i), .int .i64 0]) ∧ ∃ W1, Below W.heap.size W W1 ∧ Below (W1.setCell ⟨b, i, none⟩ (.bool true)).heap.size (W1.setCell ⟨b, i, none⟩ (.bool true)) W') ∨
  ((∀ j, j < n → u j = true) ∧ e = .returned (.tuple #[.int .i64 0, .int .i64 12]) ∧ Below W.heap.size W W')
set_option maxRecDepth 100000 in
theorem alloc0 (hb b : Nat) (u : Nat → Bool) (w : Int) (W : World) (hw0 : 0 ≤ w) (hw1 : w ≤ 4) (h0 : W.cell? ⟨hb, 0, none⟩ = some (.bool true)) (h1 : W.cell? ⟨hb, 1, none⟩ = some (.slice (some ⟨b, 0, none⟩) 64 64))
    (hu : ∀ i, i < 64 → W.cell? ⟨b, i, none⟩ = some (.bool (u i))) (hf : ∀ i, i < 64 → W.frozen? ⟨b, i, none⟩ = false) (l1 : hb < W.heap.size) (l2 : b < W.heap.size) :
    Calls Try.prog 9 #[.pointer (some ⟨hb, 0, none⟩), .int .i64 w] W (AllocTo W b u 64 262144 16) := by
  have hc : ∀ W, Calls Try.prog 8 #[.int .i64 w] W fun e W' => e = .returned (.tuple #[.int .i64 0, .int .i64 4, .int .i64 64, .int .i64 0]) ∧ Below W.heap.size W W' := by
    intro W
    have k1 : clsK w = 0 := by unfold clsK; repeat' split <;> first | rfl | omega
    have k2 : clsS w = 4 := by unfold clsS; repeat' split <;> first | rfl | omega
    have k3 : clsB w = 64 := by unfold clsB; repeat' split <;> first | rfl | omega
    have k4 : clsE w = 0 := by unfold clsE; repeat' split <;> first | rfl | omega
    have := class_calls w W
    rw [k1, k2, k3, k4] at this
    exact this
  clear hw0 hw1
  have i0 : ∀ w, (Instr.index 55 allV (.int .i64 0)).run Try.prog w = .ok (.agg #[.int .i64 4, .int .i64 64, .int .i64 262144]) w := fun _ => by kernel_rfl
  have f02 : ∀ w, (Instr.field 54 (.agg #[.int .i64 4, .int .i64 64, .int .i64 262144]) 2).run Try.prog w = .ok (.int .i64 262144) w := fun _ => by kernel_rfl
  go_enter Try.func9, Try.ntmps9
  go_wp2_with (first | (go_at_call 21; refine (none_any hb _ h0).mono ?_; rintro e w' ⟨rfl, rfl⟩) | (go_at_call 8; refine (hc _).mono ?_; rintro e W1 ⟨rfl, hb1⟩))
  obtain ⟨hc1, hf1⟩ := bcell hb1
  have k0 := (hc1 hb 0 l1).trans h0
  have k1 := (hc1 hb 1 l1).trans h1
  have ku : ∀ i, i < 64 → W1.cell? ⟨b, i, none⟩ = some (.bool (u i)) := fun i h => (hc1 b i l2).trans (hu i h)
  have kf : ∀ i, i < 64 → W1.frozen? ⟨b, i, none⟩ = false := fun i h => (hf1 b i l2).trans (hf i h)
  clear hc1 hf1
  go_loop [24] (fun i => ∃ k : Nat, k ≤ 64 ∧ i = .int .i64 k ∧ ∀ j, j < k → u j = true) (fun i => 64 - (intOf i).toNat)
  case atStart => exact ⟨0, Nat.zero_le _, rfl, fun j h => absurd h (by omega)⟩
  case round =>
    obtain ⟨k, hk, rfl, hne⟩ := hrel
    by_cases hlt : k < 64
    · have hcell := ku k hlt
      have hfro := kf k hlt
      clear ku kf hu hf
      cases hq : u k with
      | true =>
        rw [hq] at hcell
        go_wp2
        go_round
        case rel => exact ⟨k + 1, by omega, by go_num, fun j h => by rcases Nat.lt_succ_iff_lt_or_eq.1 h with h | rfl; exact hne j h; exact hq⟩
        case measure => simp [intOf]; omega
      | false =>
        rw [hq] at hcell
        go_wp2_with (go_at_call 20; refine (all_calls _).mono ?_; rintro e W2 ⟨rfl, hb2⟩)
        go_ret2
        exact .inl ⟨k, hlt, hq, hne, rfl, _, hb1, hb2⟩
    · go_wp2
      go_ret2
      exact .inr ⟨fun j h => hne j (by omega), rfl, hb1⟩
set_option maxRecDepth 100000 in
theorem alloc1 (hb b : Nat) (u : Nat → Bool) (w : Int) (W : World) (hw0 : 5 ≤ w) (hw1 : w ≤ 16) (h0 : W.cell? ⟨hb, 0, none⟩ = some (.bool true)) (h1 : W.cell? ⟨hb, 2, none⟩ = some (.slice (some ⟨b, 0, none⟩) 32 32))
    (hu : ∀ i, i < 32 → W.cell? ⟨b, i, none⟩ = some (.bool (u i))) (hf : ∀ i, i < 32 → W.frozen? ⟨b, i, none⟩ = false) (l1 : hb < W.heap.size) (l2 : b < W.heap.size) :
    Calls Try.prog 9 #[.pointer (some ⟨hb, 0, none⟩), .int .i64 w] W (AllocTo W b u 32 263168 64) := by
  have hc : ∀ W, Calls Try.prog 8 #[.int .i64 w] W fun e W' => e = .returned (.tuple #[.int .i64 1, .int .i64 16, .int .i64 32, .int .i64 0]) ∧ Below W.heap.size W W' := by
    intro W
    have k1 : clsK w = 1 := by unfold clsK; repeat' split <;> first | rfl | omega
    have k2 : clsS w = 16 := by unfold clsS; repeat' split <;> first | rfl | omega
    have k3 : clsB w = 32 := by unfold clsB; repeat' split <;> first | rfl | omega
    have k4 : clsE w = 0 := by unfold clsE; repeat' split <;> first | rfl | omega
    have := class_calls w W
    rw [k1, k2, k3, k4] at this
    exact this
  clear hw0 hw1
  have i1 : ∀ w, (Instr.index 55 allV (.int .i64 1)).run Try.prog w = .ok (.agg #[.int .i64 16, .int .i64 32, .int .i64 263168]) w := fun _ => by kernel_rfl
  have f12 : ∀ w, (Instr.field 54 (.agg #[.int .i64 16, .int .i64 32, .int .i64 263168]) 2).run Try.prog w = .ok (.int .i64 263168) w := fun _ => by kernel_rfl
  go_enter Try.func9, Try.ntmps9
  go_wp2_with (first | (go_at_call 21; refine (none_any hb _ h0).mono ?_; rintro e w' ⟨rfl, rfl⟩) | (go_at_call 8; refine (hc _).mono ?_; rintro e W1 ⟨rfl, hb1⟩))
  obtain ⟨hc1, hf1⟩ := bcell hb1
  have k0 := (hc1 hb 0 l1).trans h0
  have k1 := (hc1 hb 2 l1).trans h1
  have ku : ∀ i, i < 32 → W1.cell? ⟨b, i, none⟩ = some (.bool (u i)) := fun i h => (hc1 b i l2).trans (hu i h)
  have kf : ∀ i, i < 32 → W1.frozen? ⟨b, i, none⟩ = false := fun i h => (hf1 b i l2).trans (hf i h)
  clear hc1 hf1
  go_loop [24] (fun i => ∃ k : Nat, k ≤ 32 ∧ i = .int .i64 k ∧ ∀ j, j < k → u j = true) (fun i => 32 - (intOf i).toNat)
  case atStart => exact ⟨0, Nat.zero_le _, rfl, fun j h => absurd h (by omega)⟩
  case round =>
    obtain ⟨k, hk, rfl, hne⟩ := hrel
    by_cases hlt : k < 32
    · have hcell := ku k hlt
      have hfro := kf k hlt
      clear ku kf hu hf
      cases hq : u k with
      | true =>
        rw [hq] at hcell
        go_wp2
        go_round
        case rel => exact ⟨k + 1, by omega, by go_num, fun j h => by rcases Nat.lt_succ_iff_lt_or_eq.1 h with h | rfl; exact hne j h; exact hq⟩
        case measure => simp [intOf]; omega
      | false =>
        rw [hq] at hcell
        go_wp2_with (go_at_call 20; refine (all_calls _).mono ?_; rintro e W2 ⟨rfl, hb2⟩)
        go_ret2
        exact .inl ⟨k, hlt, hq, hne, rfl, _, hb1, hb2⟩
    · go_wp2
      go_ret2
      exact .inr ⟨fun j h => hne j (by omega), rfl, hb1⟩
set_option maxRecDepth 100000 in
theorem alloc2 (hb b : Nat) (u : Nat → Bool) (w : Int) (W : World) (hw0 : 17 ≤ w) (hw1 : w ≤ 64) (h0 : W.cell? ⟨hb, 0, none⟩ = some (.bool true)) (h1 : W.cell? ⟨hb, 3, none⟩ = some (.slice (some ⟨b, 0, none⟩) 16 16))
    (hu : ∀ i, i < 16 → W.cell? ⟨b, i, none⟩ = some (.bool (u i))) (hf : ∀ i, i < 16 → W.frozen? ⟨b, i, none⟩ = false) (l1 : hb < W.heap.size) (l2 : b < W.heap.size) :
    Calls Try.prog 9 #[.pointer (some ⟨hb, 0, none⟩), .int .i64 w] W (AllocTo W b u 16 265216 256) := by
  have hc : ∀ W, Calls Try.prog 8 #[.int .i64 w] W fun e W' => e = .returned (.tuple #[.int .i64 2, .int .i64 64, .int .i64 16, .int .i64 0]) ∧ Below W.heap.size W W' := by
    intro W
    have k1 : clsK w = 2 := by unfold clsK; repeat' split <;> first | rfl | omega
    have k2 : clsS w = 64 := by unfold clsS; repeat' split <;> first | rfl | omega
    have k3 : clsB w = 16 := by unfold clsB; repeat' split <;> first | rfl | omega
    have k4 : clsE w = 0 := by unfold clsE; repeat' split <;> first | rfl | omega
    have := class_calls w W
    rw [k1, k2, k3, k4] at this
    exact this
  clear hw0 hw1
  have i2 : ∀ w, (Instr.index 55 allV (.int .i64 2)).run Try.prog w = .ok (.agg #[.int .i64 64, .int .i64 16, .int .i64 265216]) w := fun _ => by kernel_rfl
  have f22 : ∀ w, (Instr.field 54 (.agg #[.int .i64 64, .int .i64 16, .int .i64 265216]) 2).run Try.prog w = .ok (.int .i64 265216) w := fun _ => by kernel_rfl
  go_enter Try.func9, Try.ntmps9
  go_wp2_with (first | (go_at_call 21; refine (none_any hb _ h0).mono ?_; rintro e w' ⟨rfl, rfl⟩) | (go_at_call 8; refine (hc _).mono ?_; rintro e W1 ⟨rfl, hb1⟩))
  obtain ⟨hc1, hf1⟩ := bcell hb1
  have k0 := (hc1 hb 0 l1).trans h0
  have k1 := (hc1 hb 3 l1).trans h1
  have ku : ∀ i, i < 16 → W1.cell? ⟨b, i, none⟩ = some (.bool (u i)) := fun i h => (hc1 b i l2).trans (hu i h)
  have kf : ∀ i, i < 16 → W1.frozen? ⟨b, i, none⟩ = false := fun i h => (hf1 b i l2).trans (hf i h)
  clear hc1 hf1
  go_loop [24] (fun i => ∃ k : Nat, k ≤ 16 ∧ i = .int .i64 k ∧ ∀ j, j < k → u j = true) (fun i => 16 - (intOf i).toNat)
  case atStart => exact ⟨0, Nat.zero_le _, rfl, fun j h => absurd h (by omega)⟩
  case round =>
    obtain ⟨k, hk, rfl, hne⟩ := hrel
    by_cases hlt : k < 16
    · have hcell := ku k hlt
      have hfro := kf k hlt
      clear ku kf hu hf
      cases hq : u k with
      | true =>
        rw [hq] at hcell
        go_wp2
        go_round
        case rel => exact ⟨k + 1, by omega, by go_num, fun j h => by rcases Nat.lt_succ_iff_lt_or_eq.1 h with h | rfl; exact hne j h; exact hq⟩
        case measure => simp [intOf]; omega
      | false =>
        rw [hq] at hcell
        go_wp2_with (go_at_call 20; refine (all_calls _).mono ?_; rintro e W2 ⟨rfl, hb2⟩)
        go_ret2
        exact .inl ⟨k, hlt, hq, hne, rfl, _, hb1, hb2⟩
    · go_wp2
      go_ret2
      exact .inr ⟨fun j h => hne j (by omega), rfl, hb1⟩
set_option maxRecDepth 100000 in
theorem alloc3 (hb b : Nat) (u : Nat → Bool) (w : Int) (W : World) (hw0 : 65 ≤ w) (hw1 : w ≤ 128) (h0 : W.cell? ⟨hb, 0, none⟩ = some (.bool true)) (h1 : W.cell? ⟨hb, 4, none⟩ = some (.slice (some ⟨b, 0, none⟩) 8 8))
    (hu : ∀ i, i < 8 → W.cell? ⟨b, i, none⟩ = some (.bool (u i))) (hf : ∀ i, i < 8 → W.frozen? ⟨b, i, none⟩ = false) (l1 : hb < W.heap.size) (l2 : b < W.heap.size) :
    Calls Try.prog 9 #[.pointer (some ⟨hb, 0, none⟩), .int .i64 w] W (AllocTo W b u 8 269312 512) := by
  have hc : ∀ W, Calls Try.prog 8 #[.int .i64 w] W fun e W' => e = .returned (.tuple #[.int .i64 3, .int .i64 128, .int .i64 8, .int .i64 0]) ∧ Below W.heap.size W W' := by
    intro W
    have k1 : clsK w = 3 := by unfold clsK; repeat' split <;> first | rfl | omega
    have k2 : clsS w = 128 := by unfold clsS; repeat' split <;> first | rfl | omega
    have k3 : clsB w = 8 := by unfold clsB; repeat' split <;> first | rfl | omega
    have k4 : clsE w = 0 := by unfold clsE; repeat' split <;> first | rfl | omega
    have := class_calls w W
    rw [k1, k2, k3, k4] at this
    exact this
  clear hw0 hw1
  have i3 : ∀ w, (Instr.index 55 allV (.int .i64 3)).run Try.prog w = .ok (.agg #[.int .i64 128, .int .i64 8, .int .i64 269312]) w := fun _ => by kernel_rfl
  have f32 : ∀ w, (Instr.field 54 (.agg #[.int .i64 128, .int .i64 8, .int .i64 269312]) 2).run Try.prog w = .ok (.int .i64 269312) w := fun _ => by kernel_rfl
  go_enter Try.func9, Try.ntmps9
  go_wp2_with (first | (go_at_call 21; refine (none_any hb _ h0).mono ?_; rintro e w' ⟨rfl, rfl⟩) | (go_at_call 8; refine (hc _).mono ?_; rintro e W1 ⟨rfl, hb1⟩))
  obtain ⟨hc1, hf1⟩ := bcell hb1
  have k0 := (hc1 hb 0 l1).trans h0
  have k1 := (hc1 hb 4 l1).trans h1
  have ku : ∀ i, i < 8 → W1.cell? ⟨b, i, none⟩ = some (.bool (u i)) := fun i h => (hc1 b i l2).trans (hu i h)
  have kf : ∀ i, i < 8 → W1.frozen? ⟨b, i, none⟩ = false := fun i h => (hf1 b i l2).trans (hf i h)
  clear hc1 hf1
  go_loop [24] (fun i => ∃ k : Nat, k ≤ 8 ∧ i = .int .i64 k ∧ ∀ j, j < k → u j = true) (fun i => 8 - (intOf i).toNat)
  case atStart => exact ⟨0, Nat.zero_le _, rfl, fun j h => absurd h (by omega)⟩
  case round =>
    obtain ⟨k, hk, rfl, hne⟩ := hrel
    by_cases hlt : k < 8
    · have hcell := ku k hlt
      have hfro := kf k hlt
      clear ku kf hu hf
      cases hq : u k with
      | true =>
        rw [hq] at hcell
        go_wp2
        go_round
        case rel => exact ⟨k + 1, by omega, by go_num, fun j h => by rcases Nat.lt_succ_iff_lt_or_eq.1 h with h | rfl; exact hne j h; exact hq⟩
        case measure => simp [intOf]; omega
      | false =>
        rw [hq] at hcell
        go_wp2_with (go_at_call 20; refine (all_calls _).mono ?_; rintro e W2 ⟨rfl, hb2⟩)
        go_ret2
        exact .inl ⟨k, hlt, hq, hne, rfl, _, hb1, hb2⟩
    · go_wp2
      go_ret2
      exact .inr ⟨fun j h => hne j (by omega), rfl, hb1⟩
theorem alloc_no (hb : Nat) (w : Int) (W : World) (hw : w < 0 ∨ 128 < w) (h0 : W.cell? ⟨hb, 0, none⟩ = some (.bool true)) :
    Calls Try.prog 9 #[.pointer (some ⟨hb, 0, none⟩), .int .i64 w] W fun e W' => e = .returned (.tuple #[.int .i64 0, .int .i64 2]) ∧ Below W.heap.size W W' := by
  have hc : ∀ W, Calls Try.prog 8 #[.int .i64 w] W fun e W' => e = .returned (.tuple #[.int .i64 0, .int .i64 0, .int .i64 0, .int .i64 2]) ∧ Below W.heap.size W W' := by
    intro W
    have k1 : clsK w = 0 := by unfold clsK; repeat' split <;> first | rfl | omega
    have k2 : clsS w = 0 := by unfold clsS; repeat' split <;> first | rfl | omega
    have k3 : clsB w = 0 := by unfold clsB; repeat' split <;> first | rfl | omega
    have k4 : clsE w = 2 := by unfold clsE; repeat' split <;> first | rfl | omega
    have := class_calls w W
    rw [k1, k2, k3, k4] at this
    exact this
  clear hw
  go_enter Try.func9, Try.ntmps9
  go_wp2_with (first | (go_at_call 21; refine (none_any hb _ h0).mono ?_; rintro e w' ⟨rfl, rfl⟩) | (go_at_call 8; refine (hc _).mono ?_; rintro e W1 ⟨rfl, hb1⟩))
  go_ret2
  exact ⟨rfl, hb1⟩
end Go.Proofs.Ytlpdemdakcjjjaa.W
