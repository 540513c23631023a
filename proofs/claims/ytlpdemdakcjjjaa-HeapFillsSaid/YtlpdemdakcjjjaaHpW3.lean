/- The heap's walks: Free, Live, Within. -/
import Derived.Test.YtlpdemdakcjjjaaHpW1
import Derived.WalkKit
import Derived.Lib.Hide
import Derived.LoopTactic
import Derived.Deep.QuietTactic
import Derived.BigQuiet
import Derived.IntWalk
import Derived.WalkSmall
namespace Go.Proofs.Ytlpdemdakcjjjaa.W
open Go Go.RowKit Go.Proofs Go.Proofs.Ytlpdemdakcjjjaa.Sx
set_option linter.unusedVariables false
set_option linter.unusedSimpArgs false
/-- What find told. -/
def Found (W : World) (c k o : Int) (ok : Bool) (e : Ending) (w' : World) : Prop := e = .returned (.tuple #[.int .i64 c, .int .i64 k, .int .i64 o, .bool ok]) ∧ Below W.heap.size W w'
theorem free_err (hb : Nat) (x c k o : Int) (ok : Bool) (W : World) (h0 : W.cell? ⟨hb, 0, none⟩ = some (.bool true)) (hF : Calls Try.prog 22 #[.pointer (some ⟨hb, 0, none⟩), .int .i64 x] W (Found W c k o ok)) (h : ok = false ∨ ok = true ∧ o ≠ 0) :
    Calls Try.prog 10 #[.pointer (some ⟨hb, 0, none⟩), .int .i64 x] W fun e w' => e = .returned (.int .i64 13) ∧ Below W.heap.size W w' := by
  rcases h with rfl | ⟨rfl, h⟩
  · go_enter Try.func10, Try.ntmps10
    go_wp2_with (first | (go_at_call 21; refine (none_any hb _ h0).mono ?_; rintro e w' ⟨rfl, rfl⟩) | (go_at_call 22; refine hF.mono ?_; rintro e W1 ⟨rfl, hb1⟩))
    go_ret
    exact ⟨rfl, hb1⟩
  · have ho : (o == 0) = false := by simpa using h
    have ho2 : (o != 0) = true := by simpa using h
    go_enter Try.func10, Try.ntmps10
    go_wp2_with (first | (go_at_call 21; refine (none_any hb _ h0).mono ?_; rintro e w' ⟨rfl, rfl⟩) | (go_at_call 22; refine hF.mono ?_; rintro e W1 ⟨rfl, hb1⟩))
    go_ret
    exact ⟨rfl, hb1⟩
theorem free0 (hb b : Nat) (k : Nat) (x : Int) (hk : k < 64) (W : World) (h0 : W.cell? ⟨hb, 0, none⟩ = some (.bool true)) (h1 : W.cell? ⟨hb, 1, none⟩ = some (.slice (some ⟨b, 0, none⟩) 64 64))
    (hu : W.cell? ⟨b, k, none⟩ = some (.bool true)) (hf : W.frozen? ⟨b, k, none⟩ = false) (l1 : hb < W.heap.size) (l2 : b < W.heap.size) (hF : Calls Try.prog 22 #[.pointer (some ⟨hb, 0, none⟩), .int .i64 x] W (Found W 0 k 0 true)) :
    Calls Try.prog 10 #[.pointer (some ⟨hb, 0, none⟩), .int .i64 x] W fun e w' => e = .returned (.int .i64 0) ∧ ∃ W1, Below W.heap.size W W1 ∧ w' = W1.setCell ⟨b, k, none⟩ (.bool false) := by
  go_enter Try.func10, Try.ntmps10
  go_wp2_with (first | (go_at_call 21; refine (none_any hb _ h0).mono ?_; rintro e w' ⟨rfl, rfl⟩) | (go_at_call 22; refine hF.mono ?_; rintro e W1 ⟨rfl, hb1⟩; obtain ⟨hc1, hf1⟩ := bcell hb1; have k1 := (hc1 hb 1 l1).trans h1; have ku := (hc1 b k l2).trans hu; have kf := (hf1 b k l2).trans hf; clear hc1 hf1))
  go_ret
  exact ⟨rfl, W1, hb1, rfl⟩
theorem free1 (hb b : Nat) (k : Nat) (x : Int) (hk : k < 32) (W : World) (h0 : W.cell? ⟨hb, 0, none⟩ = some (.bool true)) (h1 : W.cell? ⟨hb, 2, none⟩ = some (.slice (some ⟨b, 0, none⟩) 32 32))
    (hu : W.cell? ⟨b, k, none⟩ = some (.bool true)) (hf : W.frozen? ⟨b, k, none⟩ = false) (l1 : hb < W.heap.size) (l2 : b < W.heap.size) (hF : Calls Try.prog 22 #[.pointer (some ⟨hb, 0, none⟩), .int .i64 x] W (Found W 1 k 0 true)) :
    Calls Try.prog 10 #[.pointer (some ⟨hb, 0, none⟩), .int .i64 x] W fun e w' => e = .returned (.int .i64 0) ∧ ∃ W1, Below W.heap.size W W1 ∧ w' = W1.setCell ⟨b, k, none⟩ (.bool false) := by
  go_enter Try.func10, Try.ntmps10
  go_wp2_with (first | (go_at_call 21; refine (none_any hb _ h0).mono ?_; rintro e w' ⟨rfl, rfl⟩) | (go_at_call 22; refine hF.mono ?_; rintro e W1 ⟨rfl, hb1⟩; obtain ⟨hc1, hf1⟩ := bcell hb1; have k1 := (hc1 hb 2 l1).trans h1; have ku := (hc1 b k l2).trans hu; have kf := (hf1 b k l2).trans hf; clear hc1 hf1))
  go_ret
  exact ⟨rfl, W1, hb1, rfl⟩
theorem free2 (hb b : Nat) (k : Nat) (x : Int) (hk : k < 16) (W : World) (h0 : W.cell? ⟨hb, 0, none⟩ = some (.bool true)) (h1 : W.cell? ⟨hb, 3, none⟩ = some (.slice (some ⟨b, 0, none⟩) 16 16))
    (hu : W.cell? ⟨b, k, none⟩ = some (.bool true)) (hf : W.frozen? ⟨b, k, none⟩ = false) (l1 : hb < W.heap.size) (l2 : b < W.heap.size) (hF : Calls Try.prog 22 #[.pointer (some ⟨hb, 0, none⟩), .int .i64 x] W (Found W 2 k 0 true)) :
    Calls Try.prog 10 #[.pointer (some ⟨hb, 0, none⟩), .int .i64 x] W fun e w' => e = .returned (.int .i64 0) ∧ ∃ W1, Below W.heap.size W W1 ∧ w' = W1.setCell ⟨b, k, none⟩ (.bool false) := by
  go_enter Try.func10, Try.ntmps10
  go_wp2_with (first | (go_at_call 21; refine (none_any hb _ h0).mono ?_; rintro e w' ⟨rfl, rfl⟩) | (go_at_call 22; refine hF.mono ?_; rintro e W1 ⟨rfl, hb1⟩; obtain ⟨hc1, hf1⟩ := bcell hb1; have k1 := (hc1 hb 3 l1).trans h1; have ku := (hc1 b k l2).trans hu; have kf := (hf1 b k l2).trans hf; clear hc1 hf1))
  go_ret
  exact ⟨rfl, W1, hb1, rfl⟩
theorem free3 (hb b : Nat) (k : Nat) (x : Int) (hk : k < 8) (W : World) (h0 : W.cell? ⟨hb, 0, none⟩ = some (.bool true)) (h1 : W.cell? ⟨hb, 4, none⟩ = some (.slice (some ⟨b, 0, none⟩) 8 8))
    (hu : W.cell? ⟨b, k, none⟩ = some (.bool true)) (hf : W.frozen? ⟨b, k, none⟩ = false) (l1 : hb < W.heap.size) (l2 : b < W.heap.size) (hF : Calls Try.prog 22 #[.pointer (some ⟨hb, 0, none⟩), .int .i64 x] W (Found W 3 k 0 true)) :
    Calls Try.prog 10 #[.pointer (some ⟨hb, 0, none⟩), .int .i64 x] W fun e w' => e = .returned (.int .i64 0) ∧ ∃ W1, Below W.heap.size W W1 ∧ w' = W1.setCell ⟨b, k, none⟩ (.bool false) := by
  go_enter Try.func10, Try.ntmps10
  go_wp2_with (first | (go_at_call 21; refine (none_any hb _ h0).mono ?_; rintro e w' ⟨rfl, rfl⟩) | (go_at_call 22; refine hF.mono ?_; rintro e W1 ⟨rfl, hb1⟩; obtain ⟨hc1, hf1⟩ := bcell hb1; have k1 := (hc1 hb 4 l1).trans h1; have ku := (hc1 b k l2).trans hu; have kf := (hf1 b k l2).trans hf; clear hc1 hf1))
  go_ret
  exact ⟨rfl, W1, hb1, rfl⟩
/-- How many are true. -/
def cnt (u : Nat → Bool) : Nat → Nat
  | 0 => 0
  | k + 1 => cnt u k + if u k = true then 1 else 0
theorem cnt_le (u : Nat → Bool) : ∀ k, cnt u k ≤ k
  | 0 => Nat.le_refl _
  | k + 1 => by have := cnt_le u k; unfold cnt; split <;> omega
theorem cnt_true {u : Nat → Bool} {k : Nat} (h : u k = true) : cnt u (k + 1) = cnt u k + 1 := by simp [cnt, h]
theorem cnt_false {u : Nat → Bool} {k : Nat} (h : u k = false) : cnt u (k + 1) = cnt u k := by simp [cnt, h]
theorem live_no (hb : Nat) (k : Int) (hk : k < 0 ∨ 4 ≤ k) (W : World) (h0 : W.cell? ⟨hb, 0, none⟩ = some (.bool true)) :
    Calls Try.prog 11 #[.pointer (some ⟨hb, 0, none⟩), .int .i64 k] W fun e w' => e = .returned (.int .i64 0) ∧ w' = W := by
  rcases hk with hk | hk
  · have e1 : decide (k < 0) = true := by simpa using hk
    go_enter Try.func11, Try.ntmps11
    go_wp2_with (go_at_call 21; refine (none_any hb _ h0).mono ?_; rintro e w' ⟨rfl, rfl⟩)
    go_ret
    exact ⟨rfl, rfl⟩
  · have e1 : decide (k < 0) = false := by simp; omega
    have e2 : decide (4 ≤ k) = true := by simpa using hk
    go_enter Try.func11, Try.ntmps11
    go_wp2_with (go_at_call 21; refine (none_any hb _ h0).mono ?_; rintro e w' ⟨rfl, rfl⟩)
    go_ret
    exact ⟨rfl, rfl⟩
theorem live0 (hb b : Nat) (u : Nat → Bool) (W : World) (h0 : W.cell? ⟨hb, 0, none⟩ = some (.bool true)) (h1 : W.cell? ⟨hb, 1, none⟩ = some (.slice (some ⟨b, 0, none⟩) 64 64))
    (hu : ∀ i, i < 64 → W.cell? ⟨b, i, none⟩ = some (.bool (u i))) :
    Calls Try.prog 11 #[.pointer (some ⟨hb, 0, none⟩), .int .i64 0] W fun e w' => e = .returned (.int .i64 (cnt u 64)) ∧ w' = W := by
  go_enter Try.func11, Try.ntmps11
  go_wp2_with (go_at_call 21; refine (none_any hb _ h0).mono ?_; rintro e w' ⟨rfl, rfl⟩)
  go_loop [5, 26] (fun t i => ∃ k : Nat, k ≤ 64 ∧ i = .int .i64 k ∧ t = .int .i64 (cnt u k)) (fun _ i => 64 - (intOf i).toNat)
  case atStart => exact ⟨0, Nat.zero_le _, rfl, rfl⟩
  case round =>
    obtain ⟨k, hk, rfl, rfl⟩ := hrel
    have hle := cnt_le u k
    by_cases hlt : k < 64
    · have hcell := hu k hlt
      clear hu
      cases hq : u k with
      | true =>
        rw [hq] at hcell
        have HS := Lib.hid (cnt_true hq)
        go_wp2
        go_round
        case rel => exact ⟨k + 1, by omega, by go_num, by rw [HS.out]; go_num⟩
        case measure => simp [intOf]; omega
      | false =>
        rw [hq] at hcell
        have HS := Lib.hid (cnt_false hq)
        go_wp2
        go_round
        case rel => exact ⟨k + 1, by omega, by go_num, by rw [HS.out]⟩
        case measure => simp [intOf]; omega
    · obtain rfl : k = 64 := by omega
      go_wp2
      go_ret
      exact ⟨rfl, rfl⟩
theorem live1 (hb b : Nat) (u : Nat → Bool) (W : World) (h0 : W.cell? ⟨hb, 0, none⟩ = some (.bool true)) (h1 : W.cell? ⟨hb, 2, none⟩ = some (.slice (some ⟨b, 0, none⟩) 32 32))
    (hu : ∀ i, i < 32 → W.cell? ⟨b, i, none⟩ = some (.bool (u i))) :
    Calls Try.prog 11 #[.pointer (some ⟨hb, 0, none⟩), .int .i64 1] W fun e w' => e = .returned (.int .i64 (cnt u 32)) ∧ w' = W := by
  go_enter Try.func11, Try.ntmps11
  go_wp2_with (go_at_call 21; refine (none_any hb _ h0).mono ?_; rintro e w' ⟨rfl, rfl⟩)
  go_loop [5, 26] (fun t i => ∃ k : Nat, k ≤ 32 ∧ i = .int .i64 k ∧ t = .int .i64 (cnt u k)) (fun _ i => 32 - (intOf i).toNat)
  case atStart => exact ⟨0, Nat.zero_le _, rfl, rfl⟩
  case round =>
    obtain ⟨k, hk, rfl, rfl⟩ := hrel
    have hle := cnt_le u k
    by_cases hlt : k < 32
    · have hcell := hu k hlt
      clear hu
      cases hq : u k with
      | true =>
        rw [hq] at hcell
        have HS := Lib.hid (cnt_true hq)
        go_wp2
        go_round
        case rel => exact ⟨k + 1, by omega, by go_num, by rw [HS.out]; go_num⟩
        case measure => simp [intOf]; omega
      | false =>
        rw [hq] at hcell
        have HS := Lib.hid (cnt_false hq)
        go_wp2
        go_round
        case rel => exact ⟨k + 1, by omega, by go_num, by rw [HS.out]⟩
        case measure => simp [intOf]; omega
    · obtain rfl : k = 32 := by omega
      go_wp2
      go_ret
      exact ⟨rfl, rfl⟩
theorem live2 (hb b : Nat) (u : Nat → Bool) (W : World) (h0 : W.cell? ⟨hb, 0, none⟩ = some (.bool true)) (h1 : W.cell? ⟨hb, 3, none⟩ = some (.slice (some ⟨b, 0, none⟩) 16 16))
    (hu : ∀ i, i < 16 → W.cell? ⟨b, i, none⟩ = some (.bool (u i))) :
    Calls Try.prog 11 #[.pointer (some ⟨hb, 0, none⟩), .int .i64 2] W fun e w' => e = .returned (.int .i64 (cnt u 16)) ∧ w' = W := by
  go_enter Try.func11, Try.ntmps11
  go_wp2_with (go_at_call 21; refine (none_any hb _ h0).mono ?_; rintro e w' ⟨rfl, rfl⟩)
  go_loop [5, 26] (fun t i => ∃ k : Nat, k ≤ 16 ∧ i = .int .i64 k ∧ t = .int .i64 (cnt u k)) (fun _ i => 16 - (intOf i).toNat)
  case atStart => exact ⟨0, Nat.zero_le _, rfl, rfl⟩
  case round =>
    obtain ⟨k, hk, rfl, rfl⟩ := hrel
    have hle := cnt_le u k
    by_cases hlt : k < 16
    · have hcell := hu k hlt
      clear hu
      cases hq : u k with
      | true =>
        rw [hq] at hcell
        have HS := Lib.hid (cnt_true hq)
        go_wp2
        go_round
        case rel => exact ⟨k + 1, by omega, by go_num, by rw [HS.out]; go_num⟩
        case measure => simp [intOf]; omega
      | false =>
        rw [hq] at hcell
        have HS := Lib.hid (cnt_false hq)
        go_wp2
        go_round
        case rel => exact ⟨k + 1, by omega, by go_num, by rw [HS.out]⟩
        case measure => simp [intOf]; omega
    · obtain rfl : k = 16 := by omega
      go_wp2
      go_ret
      exact ⟨rfl, rfl⟩
theorem live3 (hb b : Nat) (u : Nat → Bool) (W : World) (h0 : W.cell? ⟨hb, 0, none⟩ = some (.bool true)) (h1 : W.cell? ⟨hb, 4, none⟩ = some (.slice (some ⟨b, 0, none⟩) 8 8))
    (hu : ∀ i, i < 8 → W.cell? ⟨b, i, none⟩ = some (.bool (u i))) :
    Calls Try.prog 11 #[.pointer (some ⟨hb, 0, none⟩), .int .i64 3] W fun e w' => e = .returned (.int .i64 (cnt u 8)) ∧ w' = W := by
  go_enter Try.func11, Try.ntmps11
  go_wp2_with (go_at_call 21; refine (none_any hb _ h0).mono ?_; rintro e w' ⟨rfl, rfl⟩)
  go_loop [5, 26] (fun t i => ∃ k : Nat, k ≤ 8 ∧ i = .int .i64 k ∧ t = .int .i64 (cnt u k)) (fun _ i => 8 - (intOf i).toNat)
  case atStart => exact ⟨0, Nat.zero_le _, rfl, rfl⟩
  case round =>
    obtain ⟨k, hk, rfl, rfl⟩ := hrel
    have hle := cnt_le u k
    by_cases hlt : k < 8
    · have hcell := hu k hlt
      clear hu
      cases hq : u k with
      | true =>
        rw [hq] at hcell
        have HS := Lib.hid (cnt_true hq)
        go_wp2
        go_round
        case rel => exact ⟨k + 1, by omega, by go_num, by rw [HS.out]; go_num⟩
        case measure => simp [intOf]; omega
      | false =>
        rw [hq] at hcell
        have HS := Lib.hid (cnt_false hq)
        go_wp2
        go_round
        case rel => exact ⟨k + 1, by omega, by go_num, by rw [HS.out]⟩
        case measure => simp [intOf]; omega
    · obtain rfl : k = 8 := by omega
      go_wp2
      go_ret
      exact ⟨rfl, rfl⟩
end Go.Proofs.Ytlpdemdakcjjjaa.W
