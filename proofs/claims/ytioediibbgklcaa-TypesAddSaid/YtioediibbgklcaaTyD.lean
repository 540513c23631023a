/- types.item: the struct or enum of a type. -/
import Derived.Test.YtioediibbgklcaaTyC
import Derived.Laws.ResultCell
namespace Go.Proofs.Ytioediibbgklcaa.W
open Go Go.RowKit Go.Proofs
set_option linter.unusedVariables false
set_option linter.unusedSimpArgs false
theorem find_idx {α : Type} {p : α → Bool} : ∀ (l : List α), (l.findIdx? p = none ∧ l.find? p = none) ∨ ∃ k x, l.findIdx? p = some k ∧ l[k]? = some x ∧ l.find? p = some x
  | [] => .inl ⟨rfl, rfl⟩
  | y :: l => by
    by_cases h : p y = true
    · exact .inr ⟨0, y, by simp [List.findIdx?_cons, h], rfl, by simp [h]⟩
    · have h : p y = false := by simpa using h
      rcases find_idx (p := p) l with ⟨h1, h2⟩ | ⟨k, x, h1, h2, h3⟩
      · exact .inl ⟨by simp [List.findIdx?_cons, h, h1], by simp [h, h2]⟩
      · exact .inr ⟨k + 1, x, by simp [List.findIdx?_cons, h, h1], by simpa using h2, by simp [h, h3]⟩
theorem itemOf_eq (its : List It) (t : Ty) : itemOf its t = if t.kind = 9 then its.find? (named? t.name) else none := rfl
theorem load_row_run {W : World} {b : Nat} {A : Array Value} (hs : A.size = 20) (h : ∀ j, j < 20 → W.cell? ⟨b, 0 + j, none⟩ = A[j]?) : (loadVar 35 ⟨b, 0, none⟩).run Try.prog W = .ok (.agg A) W := by
  obtain ⟨i0, hi0, hi1⟩ := info_size info35
  have hl := run_row (W := W) b 0 20 A.toList (by simpa using hs) (fun j hj => by rw [h j hj]; simp)
  simp [loadVar, agg_run Try.underlying35 rfl, sizeOf, typeInfo, hi0, hi1, loadCells, hl]
theorem below_laid {B b f : Nat} {A : Array Value} {W0 w w' : World} (h : Below B W0 w) (hl : Laid b f A w w') (hb : B ≤ b) (hs : B ≤ w.heap.size) : Below B W0 w' := h.grown hl.grown hs (fun g hg => by injection hg with hg; omega)
/-- What item tells. -/
structure Told (W0 : World) (o : Option It) (e : Ending) : Prop where
  yes : ∀ it, o = some it → ∃ cs, ItAt W0 cs it ∧ e = .returned (.tuple #[.agg cs.toArray, .bool true])
  no : o = none → ∃ A : Array Value, A.size = 20 ∧ (∀ v ∈ A.toList, v.oneCell' = true) ∧ e = .returned (.tuple #[.agg A, .bool false])
theorem ItAt.one {W0 : World} {cs : List Value} {it : It} (h : ItAt W0 cs it) : cs.length = 20 ∧ ∀ v ∈ cs, v.oneCell' = true := by
  obtain ⟨pa, pc, va, vc, t, rfl, _⟩ := h.ex
  refine ⟨rfl, ?_⟩
  intro v hv
  simp only [itCells, List.mem_cons, List.not_mem_nil, or_false] at hv
  rcases hv with rfl | rfl | rfl | rfl | rfl | rfl | rfl | rfl | rfl | rfl | rfl | rfl | rfl | rfl | rfl | rfl | rfl | rfl | rfl | rfl <;> rfl
def zero35 : Array Value := #[.int .i64 0, .string ⟨#[]⟩, .int .i64 0, .slice none 0 0, .slice none 0 0, .int .i64 0, .string ⟨#[]⟩, .int .i64 0, .slice none 0 0, .int .i64 0, .int .i64 0, .int .i64 0, .int .i64 0, .string ⟨#[]⟩, .slice none 0 0, .slice none 0 0, .int .i64 0, .string ⟨#[]⟩, .int .i64 0, .slice none 0 0]
theorem zero35_one : ∀ v ∈ zero35.toList, v.oneCell' = true := by
  intro v hv
  simp only [zero35, List.mem_cons, List.not_mem_nil, or_false] at hv
  rcases hv with rfl | rfl | rfl | rfl | rfl | rfl | rfl | rfl | rfl | rfl | rfl | rfl | rfl | rfl | rfl | rfl | rfl | rfl | rfl | rfl <;> rfl
/-- A block of twenty cells. -/
theorem row_there {w : World} {b : Nat} {A : Array Value} (h : w.heap[b]? = some (.cells A 35 (0, 0))) (hs : A.size = 20) : (∀ j, j < 20 → (w.cell? ⟨b, 0 + j, none⟩).isSome = true) ∧ ∀ j, j < 20 → w.frozen? ⟨b, 0 + j, none⟩ = false := by
  refine ⟨fun j hj => ?_, fun j hj => frozen_of_row _ _ _ _ 35 h⟩
  rw [cell_of_row _ _ _ _ 35 (0, 0) h]
  simp [hs, hj]
set_option maxHeartbeats 4000000 in
set_option maxRecDepth 100000 in
theorem item_calls (W0 W : World) (hb : Below W0.heap.size W0 W) (la : Option Addr) (its : List It) (lc : Nat) (hn : its.length ≤ 9223372036854775807) (hI : ItsAt W0 la its) (t : Ty) (ea : Option Addr) (el ec : Nat) :
    Calls Try.prog 24 #[.slice la its.length lc, .agg #[.int .i64 t.kind, .string t.name, .int .i64 t.n, .slice ea el ec]] W fun e w' => Told W0 (itemOf its t) e ∧ Below W.heap.size W w' := by
  go_enter Try.func24, Try.ntmps24
  go_upto_region 1 with fail
  have hb1 : Below W.heap.size W (W.alloc (.cells #[.int .i64 t.kind, .string t.name, .int .i64 t.n, .slice ea el ec] 26)) := (Below.refl _ _).alloc (Nat.le_refl _) _
  have ht0 := heap_alloc_new W (.cells #[.int .i64 t.kind, .string t.name, .int .i64 t.n, .slice ea el ec] 26)
  obtain ⟨w1, hw1⟩ : ∃ y, W.alloc (.cells #[.int .i64 t.kind, .string t.name, .int .i64 t.n, .slice ea el ec] 26) = y := ⟨_, rfl⟩
  have hs1 : w1.heap.size = W.heap.size + 1 := by rw [← hw1]; simp
  rw [hw1] at hb1 ht0
  rw [hw1]
  have hb2 : Below w1.heap.size w1 (w1.alloc (.cells zero35 35)) := (Below.refl _ _).alloc (Nat.le_refl _) _
  have hz := heap_alloc_new w1 (.cells zero35 35)
  obtain ⟨w2, hw2⟩ : ∃ y, w1.alloc (.cells zero35 35) = y := ⟨_, rfl⟩
  have hs2 : w2.heap.size = W.heap.size + 2 := by rw [← hw2]; simp [hs1]
  rw [hw2] at hb2 hz
  rw [hs1] at hz
  have hB2 : Below W.heap.size W w2 := hb1.trans (hb2.mono hb1.size)
  have ht2 : w2.heap[W.heap.size]? = _ := (hb2.block W.heap.size (by omega)).trans ht0
  rw [show w1.alloc (.cells #[.int .i64 0, .string ⟨#[]⟩, .int .i64 0, .slice none 0 0, .slice none 0 0, .int .i64 0, .string ⟨#[]⟩, .int .i64 0, .slice none 0 0, .int .i64 0, .int .i64 0, .int .i64 0, .int .i64 0, .string ⟨#[]⟩, .slice none 0 0, .slice none 0 0, .int .i64 0, .string ⟨#[]⟩, .int .i64 0, .slice none 0 0] 35) = w2 from hw2]
  have c0 : w2.cell? ⟨W.heap.size, 0, none⟩ = some (.int .i64 t.kind) := by rw [cell_of_row _ _ _ _ 26 (0, 0) ht2]; rfl
  have c1 : w2.cell? ⟨W.heap.size, 1, none⟩ = some (.string t.name) := by rw [cell_of_row _ _ _ _ 26 (0, 0) ht2]; rfl
  clear hw1 hw2 hb1 hb2 ht0 ht2 hs1
  go_upto_region 2 with (go_at_call 31; refine (find_calls W0 w2 (hb.trans (hB2.mono hb.size)) la its lc hn hI W.heap.size t.name (by omega) c1).mono ?_; rintro e w3 ⟨rfl, hb3⟩)
  have c03 := (hb3.cell (p := ⟨W.heap.size, 0, none⟩) (by show W.heap.size < _; omega)).trans c0
  have hz3 := (hb3.block (W.heap.size + 1) (by omega)).trans hz
  obtain ⟨z1, z2⟩ := row_there hz3 rfl
  obtain ⟨i0, hi0, hi1⟩ := info_size info35
  have hB3 : Below W.heap.size W w3 := hB2.trans (hb3.mono hB2.size)
  have hs3 : W.heap.size + 2 ≤ w3.heap.size := by have := hb3.size; omega
  clear c0 c1 hz hb3 hB2 hs2
  by_cases h9 : t.kind = 9
  · rcases find_idx (p := named? t.name) its with ⟨h1, h2⟩ | ⟨k, it, h1, h2, h3⟩
    · rw [h1]
      go_wp2_with (refine wpList_store_row rfl 35 (.tmp 4) (.tmp 17) rfl 20 i0 hi0 hi1 (W.heap.size + 1) 0 zero35 rfl rfl rfl zero35_one z1 z2 ?_; intro w4 hL)
      refine bodyPost_ret (v := .tuple #[.agg zero35, .bool false]) (by rw [results_cell_tmp rfl]; simp [asAddr, load_row_run (A := zero35) rfl hL.cells]) rfl ⟨⟨fun it hit => ?_, fun _ => ⟨zero35, rfl, zero35_one, rfl⟩⟩, below_laid hB3 hL (by omega) hB3.size⟩
      rw [itemOf_eq, if_pos h9, h2] at hit
      cases hit
    · rw [h1]
      obtain ⟨b, o, cs, rfl, hl, hcs, hIt⟩ := hI k it h2
      have hB03 : Below W0.heap.size W0 w3 := hb.trans (hB3.mono hb.size)
      have hload := run_row (W := w3) b (o + k * 20) 20 cs hl (fun j hj => by
        have hv := hcs j hj
        rw [List.getElem?_eq_getElem (by omega)] at hv ⊢
        exact keep_cell hB03 hv)
      have hlt : k < its.length := (List.getElem?_eq_some_iff.1 h2).1
      obtain ⟨n, hn'⟩ : ∃ n, its.length = n := ⟨_, rfl⟩
      rw [hn'] at hlt hn ⊢
      have hone := hIt.one
      obtain ⟨A, hA⟩ : ∃ A, cs.toArray = A := ⟨_, rfl⟩
      have hAs : A.size = 20 := by rw [← hA]; simpa using hl
      have hA1 : ∀ v ∈ A.toList, v.oneCell' = true := by rw [← hA]; exact hone.2
      rw [hA] at hload
      have HX := Lib.hid hA
      have HI := Lib.hid hIt
      have HH := Lib.hid h3
      clear hA hIt hone hcs hl h1 h2 h3
      simp only [idxOf]
      go_wp2_with (first
        | (refine wpList_load_row rfl 35 (.tmp 20) rfl 20 _ Try.underlying35 rfl i0 hi0 hi1 b (o + k * 20) A rfl hload ?_)
        | (refine wpList_store_row rfl 35 (.tmp 4) (.tmp 21) rfl 20 i0 hi0 hi1 (W.heap.size + 1) 0 A rfl rfl hAs hA1 z1 z2 ?_; intro w4 hL))
      refine bodyPost_ret (v := .tuple #[.agg A, .bool true]) (by rw [results_cell_tmp rfl]; simp [asAddr, load_row_run (A := A) hAs (fun j hj => hL.cells j (by omega))]) rfl ⟨⟨fun it' hit => ?_, fun hno => ?_⟩, below_laid hB3 hL (by omega) hB3.size⟩
      · rw [itemOf_eq, if_pos h9, HH.out] at hit
        injection hit with hit
        subst hit
        exact ⟨cs, HI.out, by rw [HX.out]⟩
      · rw [itemOf_eq, if_pos h9, HH.out] at hno
        cases hno
  · go_wp2_with (refine wpList_store_row rfl 35 (.tmp 4) (.tmp 17) rfl 20 i0 hi0 hi1 (W.heap.size + 1) 0 zero35 rfl rfl rfl zero35_one z1 z2 ?_; intro w4 hL)
    refine bodyPost_ret (v := .tuple #[.agg zero35, .bool false]) (by rw [results_cell_tmp rfl]; simp [asAddr, load_row_run (A := zero35) rfl hL.cells]) rfl ⟨⟨fun it hit => ?_, fun _ => ⟨zero35, rfl, zero35_one, rfl⟩⟩, below_laid hB3 hL (by omega) hB3.size⟩
    rw [itemOf_eq, if_neg h9] at hit
    cases hit
end Go.Proofs.Ytioediibbgklcaa.W
