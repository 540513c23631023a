/- types.Words, types.Copy. -/
import Derived.Test.YtioediibbgklcaaTyK
namespace Go.Proofs.Ytioediibbgklcaa.W
open Go Go.RowKit Go.Proofs
set_option linter.unusedVariables false
set_option linter.unusedSimpArgs false
/-- A type's words; none: it has no end, is too great, or has a part that nobody knows. -/
def wordsS (its : List It) (t : Ty) : Option Nat := match measureS its t with
  | none => none
  | some a => if 128 < a.words then none else some a.words
def wordsV : Option Nat → Value
  | none => .tuple #[.int .i64 0, .bool false]
  | some n => .tuple #[.int .i64 n, .bool true]
def copyS (its : List It) (t : Ty) : Bool := match measureS its t with
  | none => false
  | some a => !a.moves
set_option maxHeartbeats 4000000 in
set_option maxRecDepth 100000 in
theorem words_calls (W0 W : World) (hb : Below W0.heap.size W0 W) (la : Option Addr) (its : List It) (lc : Nat) (hn : its.length ≤ 9223372036854775807) (hI : ItsAt W0 la its) (t : Ty) (ea : Option Addr) (ec : Nat) (hT : TyAt W0 [.int .i64 t.kind, .string t.name, .int .i64 t.n, .slice ea t.el.length ec] t) :
    Calls Try.prog 7 #[.slice la its.length lc, .agg #[.int .i64 t.kind, .string t.name, .int .i64 t.n, .slice ea t.el.length ec]] W fun e w' => e = .returned (wordsV (wordsS its t)) ∧ Below W.heap.size W w' := by
  have hcall := fun X hX => measure_calls W0 X hX la its lc hn hI t ea ec hT
  obtain ⟨n, hnl⟩ : ∃ n, its.length = n := ⟨_, rfl⟩
  rw [hnl] at hcall ⊢
  go_enter Try.func7, Try.ntmps7
  go_upto_region 1 with fail
  have hb1 : Below W.heap.size W (W.alloc (.cells #[.int .i64 t.kind, .string t.name, .int .i64 t.n, .slice ea t.el.length ec] 26)) := (Below.refl _ _).alloc (Nat.le_refl _) _
  have hT1 := heap_alloc_new W (.cells #[.int .i64 t.kind, .string t.name, .int .i64 t.n, .slice ea t.el.length ec] 26)
  obtain ⟨w1, hw1⟩ : ∃ y, W.alloc (.cells #[.int .i64 t.kind, .string t.name, .int .i64 t.n, .slice ea t.el.length ec] 26) = y := ⟨_, rfl⟩
  rw [hw1] at hb1 hT1 ⊢
  have e0 : w1.cell? ⟨W.heap.size, 0, none⟩ = some (.int .i64 t.kind) := by rw [cell_of_row _ _ _ _ 26 (0, 0) hT1]; rfl
  have e1 : w1.cell? ⟨W.heap.size, 1, none⟩ = some (.string t.name) := by rw [cell_of_row _ _ _ _ 26 (0, 0) hT1]; rfl
  have e2 : w1.cell? ⟨W.heap.size, 2, none⟩ = some (.int .i64 t.n) := by rw [cell_of_row _ _ _ _ 26 (0, 0) hT1]; rfl
  have e3 : w1.cell? ⟨W.heap.size, 3, none⟩ = some (.slice ea t.el.length ec) := by rw [cell_of_row _ _ _ _ 26 (0, 0) hT1]; rfl
  have hc := hcall w1 (hb.trans (hb1.mono hb.size))
  clear hw1 hcall hT1
  cases hm : measureS its t with
  | none =>
    have hw : wordsS its t = none := by unfold wordsS; rw [hm]
    have HW := Lib.hid hw
    clear hw
    go_wp2_with (go_at_call 22; refine hc.mono ?_; rintro e w2 ⟨hM, hb2⟩; obtain rfl := hM.no hm)
    exact bodyPost_ret (v := .tuple #[.int .i64 0, .bool false]) (by simp [results, Try.results7, go_sem]) rfl ⟨by rw [HW.out]; rfl, (hb1.trans (hb2.mono hb1.size)).alloc (by have := hb1.size; have := hb2.size; omega) _⟩
  | some a =>
    by_cases h8 : 128 < a.words
    · have hw : wordsS its t = none := by unfold wordsS; rw [hm]; simp only [if_pos h8]
      have HW := Lib.hid hw
      clear hw
      have h9 : (128 : Int) < (a.words : Int) := by omega
      go_wp2_with (go_at_call 22; refine hc.mono ?_; rintro e w2 ⟨hM, hb2⟩; obtain rfl := hM.yes a hm)
      exact bodyPost_ret (v := .tuple #[.int .i64 0, .bool false]) (by simp [results, Try.results7, go_sem]) rfl ⟨by rw [HW.out]; rfl, (hb1.trans (hb2.mono hb1.size)).alloc (by have := hb1.size; have := hb2.size; omega) _⟩
    · have hw : wordsS its t = some a.words := by unfold wordsS; rw [hm]; simp only [if_neg h8]
      have HW := Lib.hid hw
      clear hw
      have h9 : ¬ (128 : Int) < (a.words : Int) := by omega
      go_wp2_with (go_at_call 22; refine hc.mono ?_; rintro e w2 ⟨hM, hb2⟩; obtain rfl := hM.yes a hm)
      exact bodyPost_ret (v := .tuple #[.int .i64 a.words, .bool true]) (by simp [results, Try.results7, go_sem]) rfl ⟨by rw [HW.out]; rfl, (hb1.trans (hb2.mono hb1.size)).alloc (by have := hb1.size; have := hb2.size; omega) _⟩
set_option maxHeartbeats 4000000 in
set_option maxRecDepth 100000 in
theorem copy_calls (W0 W : World) (hb : Below W0.heap.size W0 W) (la : Option Addr) (its : List It) (lc : Nat) (hn : its.length ≤ 9223372036854775807) (hI : ItsAt W0 la its) (t : Ty) (ea : Option Addr) (ec : Nat) (hT : TyAt W0 [.int .i64 t.kind, .string t.name, .int .i64 t.n, .slice ea t.el.length ec] t) :
    Calls Try.prog 10 #[.slice la its.length lc, .agg #[.int .i64 t.kind, .string t.name, .int .i64 t.n, .slice ea t.el.length ec]] W fun e w' => e = .returned (.bool (copyS its t)) ∧ Below W.heap.size W w' := by
  have hcall := fun X hX => measure_calls W0 X hX la its lc hn hI t ea ec hT
  obtain ⟨n, hnl⟩ : ∃ n, its.length = n := ⟨_, rfl⟩
  rw [hnl] at hcall ⊢
  go_enter Try.func10, Try.ntmps10
  go_upto_region 1 with fail
  have hb1 : Below W.heap.size W (W.alloc (.cells #[.int .i64 t.kind, .string t.name, .int .i64 t.n, .slice ea t.el.length ec] 26)) := (Below.refl _ _).alloc (Nat.le_refl _) _
  have hT1 := heap_alloc_new W (.cells #[.int .i64 t.kind, .string t.name, .int .i64 t.n, .slice ea t.el.length ec] 26)
  obtain ⟨w1, hw1⟩ : ∃ y, W.alloc (.cells #[.int .i64 t.kind, .string t.name, .int .i64 t.n, .slice ea t.el.length ec] 26) = y := ⟨_, rfl⟩
  rw [hw1] at hb1 hT1 ⊢
  have e0 : w1.cell? ⟨W.heap.size, 0, none⟩ = some (.int .i64 t.kind) := by rw [cell_of_row _ _ _ _ 26 (0, 0) hT1]; rfl
  have e1 : w1.cell? ⟨W.heap.size, 1, none⟩ = some (.string t.name) := by rw [cell_of_row _ _ _ _ 26 (0, 0) hT1]; rfl
  have e2 : w1.cell? ⟨W.heap.size, 2, none⟩ = some (.int .i64 t.n) := by rw [cell_of_row _ _ _ _ 26 (0, 0) hT1]; rfl
  have e3 : w1.cell? ⟨W.heap.size, 3, none⟩ = some (.slice ea t.el.length ec) := by rw [cell_of_row _ _ _ _ 26 (0, 0) hT1]; rfl
  have hc := hcall w1 (hb.trans (hb1.mono hb.size))
  clear hw1 hcall hT1
  cases hm : measureS its t with
  | none =>
    have hw : copyS its t = false := by unfold copyS; rw [hm]
    have HW := Lib.hid hw
    clear hw
    go_wp2_with (go_at_call 22; refine hc.mono ?_; rintro e w2 ⟨hM, hb2⟩; obtain rfl := hM.no hm)
    exact bodyPost_ret (v := .bool false) (by simp [results, Try.results10, go_sem]) rfl ⟨by rw [HW.out], (hb1.trans (hb2.mono hb1.size)).alloc (by have := hb1.size; have := hb2.size; omega) _⟩
  | some a =>
    have hw : copyS its t = !a.moves := by unfold copyS; rw [hm]
    have HW := Lib.hid hw
    clear hw
    go_wp2_with (go_at_call 22; refine hc.mono ?_; rintro e w2 ⟨hM, hb2⟩; obtain rfl := hM.yes a hm)
    exact bodyPost_ret (v := .bool (!a.moves)) (by simp [results, Try.results10, go_sem]) rfl ⟨by rw [HW.out], (hb1.trans (hb2.mono hb1.size)).alloc (by have := hb1.size; have := hb2.size; omega) _⟩
end Go.Proofs.Ytioediibbgklcaa.W
