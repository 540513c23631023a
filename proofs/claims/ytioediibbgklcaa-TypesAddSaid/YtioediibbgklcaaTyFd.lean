/- types.Field. -/
import Derived.Test.YtioediibbgklcaaTyLk
namespace Go.Proofs.Ytioediibbgklcaa.W
open Go Go.RowKit Go.Proofs
set_option linter.unusedVariables false
set_option linter.unusedSimpArgs false
set_option maxHeartbeats 4000000 in
set_option maxRecDepth 100000 in
theorem sizes_calls (W0 W : World) (hb : Below W0.heap.size W0 W) (la : Option Addr) (its : List It) (lc : Nat) (hn : its.length ≤ 9223372036854775807) (hI : ItsAt W0 la its) (t : Ty) (ea : Option Addr) (ec : Nat) (hT : TyAt W0 (cells4of t ea ec) t) (sb : Nat) (hsb : sb < W.heap.size) (hs : W.cell? ⟨sb, 0, none⟩ = some (.slice la its.length lc)) :
    Calls Try.prog 25 #[.pointer (some ⟨sb, 0, none⟩), .agg (cells4of t ea ec).toArray] W fun e w' => e = .returned (wordsV (wordsS its t)) ∧ Below W.heap.size W w' := by
  have hcall := fun X hX => words_calls W0 X hX la its lc hn hI t ea ec hT
  obtain ⟨nn, hnl⟩ : ∃ nn, its.length = nn := ⟨_, rfl⟩
  rw [hnl] at hcall hs
  go_enter Try.func25, Try.ntmps25
  go_upto_region 1 with fail
  have hb1 : Below W.heap.size W (W.alloc (.cells (cells4of t ea ec).toArray 26)) := (Below.refl _ _).alloc (Nat.le_refl _) _
  have hT1 := heap_alloc_new W (.cells (cells4of t ea ec).toArray 26)
  show Code.wp Try.prog _ _ _ (W.alloc (.cells (cells4of t ea ec).toArray 26))
  obtain ⟨w1, hw1⟩ : ∃ y, W.alloc (.cells (cells4of t ea ec).toArray 26) = y := ⟨_, rfl⟩
  rw [hw1] at hb1 hT1 ⊢
  have hs1 := (hb1.cell (p := ⟨sb, 0, none⟩) hsb).trans hs
  have e0 : w1.cell? ⟨W.heap.size, 0, none⟩ = some (.int .i64 t.kind) := by rw [cell_of_row _ _ _ _ 26 (0, 0) hT1]; rfl
  have e1 : w1.cell? ⟨W.heap.size, 1, none⟩ = some (.string t.name) := by rw [cell_of_row _ _ _ _ 26 (0, 0) hT1]; rfl
  have e2 : w1.cell? ⟨W.heap.size, 2, none⟩ = some (.int .i64 t.n) := by rw [cell_of_row _ _ _ _ 26 (0, 0) hT1]; rfl
  have e3 : w1.cell? ⟨W.heap.size, 3, none⟩ = some (.slice ea t.el.length ec) := by rw [cell_of_row _ _ _ _ 26 (0, 0) hT1]; rfl
  have hbd := below_dr hb1
  have hc := hcall w1.drew (hb.trans (hbd.mono hb.size))
  clear hw1 hcall hT1
  cases hw : wordsS its t with
  | none =>
    rw [hw] at hc
    have HW := Lib.hid hw
    go_region_law (go_simp; go_at_call 7; refine hc.mono ?_; rintro e w3 ⟨rfl, hb3⟩; simp only [wordsV])
    all_goals
      go_wp2
      exact bodyPost_ret (v := .tuple #[.int .i64 0, .bool false]) (by simp [results, Try.results25, go_sem]) rfl ⟨by rw [HW.out]; rfl, hbd.trans (hb3.mono hbd.size)⟩
  | some n =>
    rw [hw] at hc
    have HW := Lib.hid hw
    go_region_law (go_simp; go_at_call 7; refine hc.mono ?_; rintro e w3 ⟨rfl, hb3⟩; simp only [wordsV])
    all_goals
      go_wp2
      exact bodyPost_ret (v := .tuple #[.int .i64 n, .bool true]) (by simp [results, Try.results25, go_sem]) rfl ⟨by rw [HW.out]; rfl, hbd.trans (hb3.mono hbd.size)⟩
/-- A struct's field: which one, its type, what stands ahead of it. -/
def fieldP (its : List It) (s : ByteArray) : List (ByteArray × Ty) → Nat → Nat → Option (Nat × Ty × Nat)
  | [], _, _ => none
  | p :: ps, i, ahead => match wordsS its p.2 with
    | none => none
    | some n => if p.1.toList == s.toList then some (i, p.2, ahead) else fieldP its s ps (i + 1) (ahead + n)
def fieldS (its : List It) (t : Ty) (s : ByteArray) : Option (Nat × Ty × Nat) := match itemOf its t with
  | none => none
  | some it => if it.kind = 2 then fieldP its s it.ps 0 0 else none
theorem info26s : (Try.prog.info? 26).map (fun i => i.size) = some 4 := by kernel_rfl
theorem zero4_one : ∀ v ∈ zero4.toList, v.oneCell' = true := by
  intro v hv
  simp only [zero4, List.mem_cons, List.not_mem_nil, or_false] at hv
  rcases hv with rfl | rfl | rfl | rfl <;> rfl
theorem drop_at {α : Type} {l : List α} {k : Nat} {x : α} (h : l[k]? = some x) : l.drop k = x :: l.drop (k + 1) := by
  obtain ⟨h1, h2⟩ := List.getElem?_eq_some_iff.1 h
  rw [List.drop_eq_getElem_cons h1, h2]
theorem words_le {its : List It} {t : Ty} {n : Nat} (h : wordsS its t = some n) : n ≤ 128 := by
  unfold wordsS at h
  split at h
  · cases h
  · split at h
    · cases h
    · injection h with h; omega
theorem put4 {X : World} {b : Nat} {A : Array Value} (h : X.heap[b]? = some (.cells A 26 (0, 0))) (hs : A.size = 4) (v0 v1 v2 v3 : Value) :
    ∃ Y, ((((X.setCell ⟨b, 0, none⟩ v0).setCell ⟨b, 1, none⟩ v1).setCell ⟨b, 2, none⟩ v2).setCell ⟨b, 3, none⟩ v3) = Y ∧ Y.cell? ⟨b, 0, none⟩ = some v0 ∧ Y.cell? ⟨b, 1, none⟩ = some v1 ∧ Y.cell? ⟨b, 2, none⟩ = some v2 ∧ Y.cell? ⟨b, 3, none⟩ = some v3 ∧ X.grownBy Y (some b) := by
  refine ⟨_, rfl, ?_⟩
  have hc : ∀ j, j < [v0, v1, v2, v3].length → (X.cell? ⟨b, 0 + j, none⟩).isSome = true := fun j hj => (row_there4 h hs).1 j hj
  have hin := World.cell?_setCells_in b [v0, v1, v2, v3] 0 X hc
  refine ⟨hin 0 (by simp), hin 1 (by simp), hin 2 (by simp), hin 3 (by simp), ?_⟩
  show X.grownBy (X.setCells b 0 [v0, v1, v2, v3]) (some b)
  exact ⟨World.os_setCells _ _ _ _, setCells_tape _ _ _ _, World.output_setCells _ _ _ _, by rw [setCells_size]; exact Nat.le_refl _, fun q hq hne => World.heap_setCells_other _ _ _ _ hq (fun e => hne (by rw [e]))⟩
/-- What Field answers. -/
structure FieldT (W0 : World) (o : Option (Nat × Ty × Nat)) (e : Ending) : Prop where
  yes : ∀ i f a, o = some (i, f, a) → ∃ fa fc, e = .returned (.tuple #[.int .i64 (i : Nat), .agg (cells4of f fa fc).toArray, .int .i64 (a : Nat), .bool true]) ∧ TyAt W0 (cells4of f fa fc) f
  no : o = none → e = .returned (.tuple #[.int .i64 0, .agg zero4, .int .i64 0, .bool false])
theorem fieldT_no {W0 : World} {o : Option (Nat × Ty × Nat)} {e : Ending} (h : o = none) (h' : e = .returned (.tuple #[.int .i64 0, .agg zero4, .int .i64 0, .bool false])) : FieldT W0 o e := ⟨fun i f a hu => (by rw [h] at hu; cases hu), fun _ => h'⟩
theorem fieldT_yes {W0 : World} {o : Option (Nat × Ty × Nat)} {e : Ending} {i : Nat} {f : Ty} {a : Nat} (h : o = some (i, f, a)) (h' : ∃ fa fc, e = .returned (.tuple #[.int .i64 (i : Nat), .agg (cells4of f fa fc).toArray, .int .i64 (a : Nat), .bool true]) ∧ TyAt W0 (cells4of f fa fc) f) : FieldT W0 o e := ⟨fun i f a hu => (by rw [h] at hu; injection hu with hu; injection hu with h1 h2; injection h2 with h2 h3; subst h1 h2 h3; exact h'), fun hu => (by rw [h] at hu; cases hu)⟩
theorem Told.par {W0 : World} {o : Option It} {e : Ending} (h : Told W0 o e) {it : It} (ho : o = some it) : ∃ A : Array Value, ∃ pa pc, A.size = 20 ∧ (∀ v ∈ A.toList, v.oneCell' = true) ∧ A[0]? = some (.int .i64 it.kind) ∧ A[3]? = some (.slice pa it.ps.length pc) ∧ PsAt W0 pa it.ps ∧ e = .returned (.tuple #[.agg A, .bool true]) := by
  obtain ⟨cs, hIt, rfl⟩ := h.yes it ho
  obtain ⟨h1, h2⟩ := hIt.one
  obtain ⟨pa, pc, va, vc, t, rfl, _, hv, hP, hV⟩ := hIt.ex
  exact ⟨_, pa, pc, by simpa using h1, by simpa using h2, rfl, rfl, hP, rfl⟩
set_option maxHeartbeats 4000000 in
set_option maxRecDepth 100000 in
theorem field_calls (W0 W : World) (hb : Below W0.heap.size W0 W) (la : Option Addr) (its : List It) (lc : Nat) (hn : its.length ≤ 9223372036854775807) (hI : ItsAt W0 la its) (hF : FewOf its) (t : Ty) (ea : Option Addr) (el ec : Nat) (s : ByteArray) :
    Calls Try.prog 12 #[.slice la its.length lc, .agg #[.int .i64 t.kind, .string t.name, .int .i64 t.n, .slice ea el ec], .string s] W fun e w' => FieldT W0 (fieldS its t s) e ∧ Below W.heap.size W w' := by
  have hcall := fun X hX => item_calls W0 X hX la its lc hn hI t ea el ec
  have hsizes := fun X hX => sizes_calls W0 X hX la its lc hn hI
  obtain ⟨nn, hnl⟩ : ∃ nn, its.length = nn := ⟨_, rfl⟩
  rw [hnl] at hcall hsizes ⊢
  go_enter Try.func12, Try.ntmps12
  go_upto_region 1 with fail
  have hb1 : Below W.heap.size W (W.alloc (.cells #[.int .i64 t.kind, .string t.name, .int .i64 t.n, .slice ea el ec] 26)) := (Below.refl _ _).alloc (Nat.le_refl _) _
  have hT1 := heap_alloc_new W (.cells #[.int .i64 t.kind, .string t.name, .int .i64 t.n, .slice ea el ec] 26)
  obtain ⟨w1, hw1⟩ : ∃ y, W.alloc (.cells #[.int .i64 t.kind, .string t.name, .int .i64 t.n, .slice ea el ec] 26) = y := ⟨_, rfl⟩
  have hs1 : w1.heap.size = W.heap.size + 1 := by rw [← hw1]; simp
  rw [hw1] at hb1 hT1 ⊢
  have hb2 : Below w1.heap.size w1 (w1.alloc (.cells zero4 26)) := (Below.refl _ _).alloc (Nat.le_refl _) _
  have hS1 := heap_alloc_new w1 (.cells zero4 26)
  obtain ⟨w2, hw2⟩ : ∃ y, w1.alloc (.cells zero4 26) = y := ⟨_, rfl⟩
  have hs2 : w2.heap.size = W.heap.size + 2 := by rw [← hw2]; simp [hs1]
  rw [hw2] at hb2 hS1
  rw [hs1] at hS1
  show Code.wp Try.prog _ _ _ (w1.alloc (.cells zero4 26))
  rw [hw2]
  have hB2 : Below W.heap.size W w2 := hb1.trans (hb2.mono hb1.size)
  have hT2 := (hb2.block W.heap.size (by omega)).trans hT1
  have e0 : w2.cell? ⟨W.heap.size, 0, none⟩ = some (.int .i64 t.kind) := by rw [cell_of_row _ _ _ _ 26 (0, 0) hT2]; rfl
  have e1 : w2.cell? ⟨W.heap.size, 1, none⟩ = some (.string t.name) := by rw [cell_of_row _ _ _ _ 26 (0, 0) hT2]; rfl
  have e2 : w2.cell? ⟨W.heap.size, 2, none⟩ = some (.int .i64 t.n) := by rw [cell_of_row _ _ _ _ 26 (0, 0) hT2]; rfl
  have e3 : w2.cell? ⟨W.heap.size, 3, none⟩ = some (.slice ea el ec) := by rw [cell_of_row _ _ _ _ 26 (0, 0) hT2]; rfl
  have hc := hcall w2 (hb.trans (hB2.mono hb.size))
  clear hw1 hw2 hb1 hb2 hcall hT1 hT2 hs1
  obtain ⟨i0, hi0, hi1⟩ := info_size info35
  obtain ⟨j0, hj0, hj1⟩ := info_size info26s
  -- the cell of the field's type
  have hz4 : ∀ X : World, X.heap[W.heap.size + 1]? = some (.cells zero4 26 (0, 0)) → X.cell? ⟨W.heap.size + 1, 0, none⟩ = some (.int .i64 0) ∧ X.cell? ⟨W.heap.size + 1, 1, none⟩ = some (.string nil0) ∧ X.cell? ⟨W.heap.size + 1, 2, none⟩ = some (.int .i64 0) ∧ X.cell? ⟨W.heap.size + 1, 3, none⟩ = some (.slice none 0 0) ∧ X.frozen? ⟨W.heap.size + 1, 0, none⟩ = false ∧ X.frozen? ⟨W.heap.size + 1, 1, none⟩ = false ∧ X.frozen? ⟨W.heap.size + 1, 2, none⟩ = false ∧ X.frozen? ⟨W.heap.size + 1, 3, none⟩ = false := fun X h =>
    ⟨by rw [cell_of_row _ _ _ _ 26 (0, 0) h]; rfl, by rw [cell_of_row _ _ _ _ 26 (0, 0) h]; rfl, by rw [cell_of_row _ _ _ _ 26 (0, 0) h]; rfl, by rw [cell_of_row _ _ _ _ 26 (0, 0) h]; rfl, frozen_of_row _ _ _ _ 26 h, frozen_of_row _ _ _ _ 26 h, frozen_of_row _ _ _ _ 26 h, frozen_of_row _ _ _ _ 26 h⟩
  cases hit : itemOf its t with
  | none =>
    have hv0 : fieldS its t s = none := by unfold fieldS; rw [hit]
    have HX := Lib.hid hv0
    clear hv0
    go_upto_region 2 with (first
      | (go_at_call 24; refine hc.mono ?_; rintro e w3 ⟨hTo, hb3⟩; obtain ⟨A, hAs, hA1, rfl⟩ := hTo.no hit)
      | (refine wpList_store_row rfl 35 (.tmp 10) (.tmp 21) rfl 20 i0 hi0 hi1 (w3.heap.size) 0 A rfl rfl hAs hA1 (zero_there _).1 (zero_there _).2 ?_; intro w4 hL))
    have hB3 := hB2.trans (hb3.mono hB2.size)
    have hb3s := hb3.size
    have hB4 := below_laid (hB3.alloc hB3.size (.cells zero35 35)) hL hB3.size (by have := hB3.size; simp; omega)
    have hS4 : w4.heap[W.heap.size + 1]? = some (.cells zero4 26 (0, 0)) := by
      have h1 := hb3.block (W.heap.size + 1) (by omega)
      have h2 := hL.grown.block (W.heap.size + 1) (by simp; omega) (by intro e; injection e with e; omega)
      have h3 := ((Below.refl w3.heap.size w3).alloc (Nat.le_refl _) (.cells zero35 35)).block (W.heap.size + 1) (by omega)
      exact h2.trans (h3.trans (h1.trans hS1))
    clear hL e0 e1 e2 e3 hTo hc hz4
    go_wp2_with (refine wpList_store_row rfl 26 (.tmp 7) (.tmp 30) rfl 4 j0 hj0 hj1 (W.heap.size + 1) 0 zero4 rfl rfl rfl zero4_one (row_there4 hS4 rfl).1 (row_there4 hS4 rfl).2 ?_; intro w5 hL5)
    have q0 : w5.cell? ⟨W.heap.size + 1, 0, none⟩ = some (.int .i64 0) := hL5.cells 0 (by decide)
    have q1 : w5.cell? ⟨W.heap.size + 1, 1, none⟩ = some (.string nil0) := hL5.cells 1 (by decide)
    have q2 : w5.cell? ⟨W.heap.size + 1, 2, none⟩ = some (.int .i64 0) := hL5.cells 2 (by decide)
    have q3 : w5.cell? ⟨W.heap.size + 1, 3, none⟩ = some (.slice none 0 0) := hL5.cells 3 (by decide)
    exact bodyPost_ret (v := .tuple #[.int .i64 0, .agg zero4, .int .i64 0, .bool false]) (by simp [results, Try.results12, go_sem, q0, q1, q2, q3, zero4]) rfl ⟨fieldT_no HX.out rfl, below_laid hB4 hL5 (by omega) hB4.size⟩
  | some it =>
    go_upto_region 2 with (first
      | (go_at_call 24; refine hc.mono ?_; rintro e w3 ⟨hTo, hb3⟩; obtain ⟨A, pa, pc, hAs, hA1, hA0, hA3, hP, rfl⟩ := hTo.par hit)
      | (refine wpList_store_row rfl 35 (.tmp 10) (.tmp 21) rfl 20 i0 hi0 hi1 (w3.heap.size) 0 A rfl rfl hAs hA1 (zero_there _).1 (zero_there _).2 ?_; intro w4 hL))
    have hB3 := hB2.trans (hb3.mono hB2.size)
    have hb3s := hb3.size
    have hB4 := below_laid (hB3.alloc hB3.size (.cells zero35 35)) hL hB3.size (by have := hB3.size; simp; omega)
    have f0 : w4.cell? ⟨w3.heap.size, 0, none⟩ = some (.int .i64 it.kind) := (hL.cells 0 (by omega)).trans hA0
    have f3 : w4.cell? ⟨w3.heap.size, 3, none⟩ = some (.slice pa it.ps.length pc) := (hL.cells 3 (by omega)).trans hA3
    have hS4 : w4.heap[W.heap.size + 1]? = some (.cells zero4 26 (0, 0)) := by
      have h1 := hb3.block (W.heap.size + 1) (by omega)
      have h2 := hL.grown.block (W.heap.size + 1) (by simp; omega) (by intro e; injection e with e; omega)
      have h3 := ((Below.refl w3.heap.size w3).alloc (Nat.le_refl _) (.cells zero35 35)).block (W.heap.size + 1) (by omega)
      exact h2.trans (h3.trans (h1.trans hS1))
    have hs4 : W.heap.size + 1 < w4.heap.size := (Array.getElem?_eq_some_iff.1 hS4).1
    obtain ⟨bb, hbb⟩ : ∃ bb, w3.heap.size = bb := ⟨_, rfl⟩
    rw [hbb] at f0 f3 ⊢
    have HIT := Lib.hid hit
    have hpl : it.ps.length < 300 := by
      rw [itemOf_eq] at hit
      split at hit
      · obtain ⟨q, hq⟩ := List.getElem?_of_mem (List.mem_of_find?_eq_some hit)
        exact (hF.each q it hq).ps
      · cases hit
    obtain ⟨kd, hkd⟩ : ∃ kd, it.kind = kd := ⟨_, rfl⟩
    rw [hkd] at f0
    obtain ⟨ps, hpse⟩ : ∃ ps, it.ps = ps := ⟨_, rfl⟩
    rw [hpse] at f3 hP hpl
    have hfs : fieldS its t s = if kd = 2 then fieldP its s ps 0 0 else none := by unfold fieldS; rw [hit]; simp only; rw [hkd, hpse]
    obtain ⟨n, hnn⟩ : ∃ n, ps.length = n := ⟨_, rfl⟩
    rw [hnn] at f3 hpl
    have HN := Lib.hid hnn
    have HZ := Lib.hid hz4
    clear hL hA0 hA3 hA1 hAs hb3 hB3 hbb e0 e1 e2 e3 hS1 hc hit hkd hpse hTo hnn hz4 hb3s
    by_cases h2 : kd = 2
    · rw [if_pos h2] at hfs
      have HX := Lib.hid hfs
      subst h2
      clear hfs
      go_upto_region 5 with fail
      have hb5 : Below w4.heap.size w4 (w4.alloc (.cells #[.slice la nn lc] 63)) := (Below.refl _ _).alloc (Nat.le_refl _) _
      have hsz5 := heap_alloc_new w4 (.cells #[.slice la nn lc] 63)
      obtain ⟨sb, hsb⟩ : ∃ sb, w4.heap.size = sb := ⟨_, rfl⟩
      obtain ⟨w5, hw5⟩ : ∃ y, w4.alloc (.cells #[.slice la nn lc] 63) = y := ⟨_, rfl⟩
      have hs5 : sb < w5.heap.size := by rw [← hw5, ← hsb]; simp
      rw [hw5] at hb5 hsz5 ⊢
      rw [hsb] at hsz5 ⊢
      have hc5 : w5.cell? ⟨sb, 0, none⟩ = some (.slice la nn lc) := by rw [cell_of_row _ _ _ _ 63 (0, 0) hsz5]; rfl
      have hB5 := hB4.trans (hb5.mono hB4.size)
      have g3 := (hb5.cell (p := ⟨bb, 3, none⟩) (cell_lt f3)).trans f3
      have hS5 := (hb5.block _ hs4).trans hS4
      have hs5' : W.heap.size + 1 < w5.heap.size := (Array.getElem?_eq_some_iff.1 hS5).1
      clear hw5 hsb hb5 hsz5 f0 f3 hS4 hs4
      go_wp2
      go_loopw [38, 8] (fun i av wr => ∃ k a : Nat, k ≤ n ∧ i = .int .i64 k ∧ av = .int .i64 a ∧ a ≤ 128 * k ∧ Below w5.heap.size w5 wr ∧ fieldP its s ps 0 0 = fieldP its s (ps.drop k) k a) (fun i _ _ => n - (intOf i).toNat)
      case atStart => exact ⟨0, 0, Nat.zero_le _, rfl, rfl, by omega, Below.refl _ _, rfl⟩
      case round =>
        obtain ⟨k, a, hk, rfl, rfl, ha, hB, hfp⟩ := hrel
        have hBr := hB5.trans (hB.mono hB5.size)
        have hB0 := hb.trans (hBr.mono hb.size)
        have hSr := (hB.block _ hs5').trans hS5
        by_cases hlt : k < n
        · obtain ⟨pr, hpr⟩ : ∃ pr, ps[k]? = some pr := ⟨_, List.getElem?_eq_getElem (by have := HN.out; omega)⟩
          obtain ⟨b, o, mu, x, c0, c1, c2, c3, rfl, x0, x1, x2, x3, x4, x5, x6, hT0⟩ := hP k pr hpr
          obtain ⟨fa, fc, rfl, rfl, rfl, rfl, _, _⟩ := hT0.inv
          have y0 := keep_cell hB0 x0
          have y1 := keep_cell hB0 x1
          have y2 := keep_cell hB0 x2
          have y3 := keep_cell hB0 x3
          have y4 := keep_cell hB0 x4
          have y5 := keep_cell hB0 x5
          have y6 := keep_cell hB0 x6
          rw [drop_at hpr, fieldP] at hfp
          go_upto_region 8 with fail
          have hel := heap_alloc_new wr (.cells #[.string pr.1, .bool mu, .int .i64 pr.2.kind, .string pr.2.name, .int .i64 pr.2.n, .slice fa pr.2.el.length fc, .int .i64 x] 28)
          have hb6 : Below wr.heap.size wr (wr.alloc (.cells #[.string pr.1, .bool mu, .int .i64 pr.2.kind, .string pr.2.name, .int .i64 pr.2.n, .slice fa pr.2.el.length fc, .int .i64 x] 28)) := (Below.refl _ _).alloc (Nat.le_refl _) _
          obtain ⟨eb, heb⟩ : ∃ y, wr.heap.size = y := ⟨_, rfl⟩
          obtain ⟨w6, hw6⟩ : ∃ y, wr.alloc (.cells #[.string pr.1, .bool mu, .int .i64 pr.2.kind, .string pr.2.name, .int .i64 pr.2.n, .slice fa pr.2.el.length fc, .int .i64 x] 28) = y := ⟨_, rfl⟩
          rw [hw6] at hel hb6 ⊢
          rw [heb] at hel ⊢
          have hB6 := hB.trans (hb6.mono hB.size)
          have hBr6 := hB5.trans (hB6.mono hB5.size)
          have hB06 := hb.trans (hBr6.mono hb.size)
          have k0 : w6.cell? ⟨eb, 0, none⟩ = some (.string pr.1) := by rw [cell_of_row _ _ _ _ 28 (0, 0) hel]; rfl
          have k2 : w6.cell? ⟨eb, 2, none⟩ = some (.int .i64 pr.2.kind) := by rw [cell_of_row _ _ _ _ 28 (0, 0) hel]; rfl
          have k3 : w6.cell? ⟨eb, 3, none⟩ = some (.string pr.2.name) := by rw [cell_of_row _ _ _ _ 28 (0, 0) hel]; rfl
          have k4 : w6.cell? ⟨eb, 4, none⟩ = some (.int .i64 pr.2.n) := by rw [cell_of_row _ _ _ _ 28 (0, 0) hel]; rfl
          have k5 : w6.cell? ⟨eb, 5, none⟩ = some (.slice fa pr.2.el.length fc) := by rw [cell_of_row _ _ _ _ 28 (0, 0) hel]; rfl
          have hcs := hsizes w6 hB06 pr.2 fa fc hT0 sb (by have := hB6.size; omega) ((hB6.cell (p := ⟨sb, 0, none⟩) hs5).trans hc5)
          have hcs : Calls Try.prog 25 #[.pointer (some ⟨sb, 0, none⟩), .agg #[.int .i64 pr.2.kind, .string pr.2.name, .int .i64 pr.2.n, .slice fa pr.2.el.length fc]] w6 _ := hcs
          have hS6 := (hB6.block _ hs5').trans hS5
          clear hw6 heb hel hb6 y0 y1 y2 y3 y4 y5 y6 x0 x1 x2 x3 x4 x5 x6
          cases hw : wordsS its pr.2 with
          | none =>
            rw [hw] at hfp hcs
            simp only at hfp
            have HX2 := Lib.hid (HX.out.trans hfp)
            simp only [wordsV] at hcs
            clear hfp hw
            go_upto_region 14 with (go_at_call 25; refine hcs.mono ?_; rintro e w7 ⟨rfl, hb7⟩)
            have hB7 := hBr6.trans (hb7.mono hBr6.size)
            have hS7 := (hb7.block _ (Array.getElem?_eq_some_iff.1 hS6).1).trans hS6
            go_wp2_with (refine wpList_store_row rfl 26 (.tmp 7) (.tmp 64) rfl 4 j0 hj0 hj1 (W.heap.size + 1) 0 zero4 rfl rfl rfl zero4_one (row_there4 hS7 rfl).1 (row_there4 hS7 rfl).2 ?_; intro w8 hL5)
            have q0 : w8.cell? ⟨W.heap.size + 1, 0, none⟩ = some (.int .i64 0) := hL5.cells 0 (by decide)
            have q1 : w8.cell? ⟨W.heap.size + 1, 1, none⟩ = some (.string nil0) := hL5.cells 1 (by decide)
            have q2 : w8.cell? ⟨W.heap.size + 1, 2, none⟩ = some (.int .i64 0) := hL5.cells 2 (by decide)
            have q3 : w8.cell? ⟨W.heap.size + 1, 3, none⟩ = some (.slice none 0 0) := hL5.cells 3 (by decide)
            exact bodyPost_ret (v := .tuple #[.int .i64 0, .agg zero4, .int .i64 0, .bool false]) (by simp [results, Try.results12, go_sem, q0, q1, q2, q3, zero4]) rfl ⟨fieldT_no HX2.out rfl, below_laid hB7 hL5 (by omega) hB7.size⟩
          | some m =>
            rw [hw] at hfp hcs
            simp only at hfp
            have hm8 := words_le hw
            simp only [wordsV] at hcs
            clear hw
            cases hq : (pr.1.toList == s.toList) with
            | true =>
              rw [hq] at hfp
              simp only [if_true] at hfp
              have HX2 := Lib.hid (HX.out.trans hfp)
              clear hfp
              go_wp2_with (go_at_call 25; refine hcs.mono ?_; rintro e w7 ⟨rfl, hb7⟩; have m0 := (hb7.cell (p := ⟨eb, 0, none⟩) (cell_lt k0)).trans k0)
              have hB7 := hBr6.trans (hb7.mono hBr6.size)
              have hS7 := (hb7.block _ (Array.getElem?_eq_some_iff.1 hS6).1).trans hS6
              obtain ⟨z0, z1, z2, z3, u0, u1, u2, u3⟩ := HZ.out w7 hS7
              have m2 := (hb7.cell (p := ⟨eb, 2, none⟩) (cell_lt k2)).trans k2
              have m3 := (hb7.cell (p := ⟨eb, 3, none⟩) (cell_lt k3)).trans k3
              have m4 := (hb7.cell (p := ⟨eb, 4, none⟩) (cell_lt k4)).trans k4
              have m5 := (hb7.cell (p := ⟨eb, 5, none⟩) (cell_lt k5)).trans k5
              clear k0 k2 k3 k4 k5 hcs
              go_region
              all_goals
                obtain ⟨Y, hY, r0, r1, r2, r3, hG⟩ := put4 hS7 rfl (.int .i64 pr.2.kind) (.string pr.2.name) (.int .i64 pr.2.n) (.slice fa pr.2.el.length fc)
                rw [hY]
                have hBY := below_dr (hB7.grown hG hB7.size (fun g hg => by injection hg with hg; omega))
                have d0 : Y.drew.cell? ⟨W.heap.size + 1, 0, none⟩ = _ := r0
                have d1 : Y.drew.cell? ⟨W.heap.size + 1, 1, none⟩ = _ := r1
                have d2 : Y.drew.cell? ⟨W.heap.size + 1, 2, none⟩ = _ := r2
                have d3 : Y.drew.cell? ⟨W.heap.size + 1, 3, none⟩ = _ := r3
                go_wp2
                exact bodyPost_ret (v := .tuple #[.int .i64 k, .agg (cells4of pr.2 fa fc).toArray, .int .i64 a, .bool true]) (by simp [results, Try.results12, go_sem, d0, d1, d2, d3]) rfl ⟨fieldT_yes HX2.out ⟨_, _, rfl, hT0⟩, hBY⟩
            | false =>
              rw [hq] at hfp
              simp only [if_false, Bool.false_eq_true] at hfp
              have HF := Lib.hid hfp
              clear hfp
              go_wp2_with (go_at_call 25; refine hcs.mono ?_; rintro e w7 ⟨rfl, hb7⟩; have m0 := (hb7.cell (p := ⟨eb, 0, none⟩) (cell_lt k0)).trans k0)
              have hB7 := hB6.trans (hb7.mono hB6.size)
              go_roundw
              case rel => exact ⟨k + 1, a + m, by omega, by go_num, by go_num, by omega, hB7, HF.out⟩
              case measure => simp [intOf]; omega
        · obtain rfl : k = n := by omega
          have hno : fieldP its s ps 0 0 = none := by rw [hfp, List.drop_of_length_le (by have := HN.out; omega)]; rfl
          have HX2 := Lib.hid (HX.out.trans hno)
          clear hno hfp
          go_upto_region 14 with fail
          go_wp2_with (refine wpList_store_row rfl 26 (.tmp 7) (.tmp 64) rfl 4 j0 hj0 hj1 (W.heap.size + 1) 0 zero4 rfl rfl rfl zero4_one (row_there4 hSr rfl).1 (row_there4 hSr rfl).2 ?_; intro w8 hL5)
          have q0 : w8.cell? ⟨W.heap.size + 1, 0, none⟩ = some (.int .i64 0) := hL5.cells 0 (by decide)
          have q1 : w8.cell? ⟨W.heap.size + 1, 1, none⟩ = some (.string nil0) := hL5.cells 1 (by decide)
          have q2 : w8.cell? ⟨W.heap.size + 1, 2, none⟩ = some (.int .i64 0) := hL5.cells 2 (by decide)
          have q3 : w8.cell? ⟨W.heap.size + 1, 3, none⟩ = some (.slice none 0 0) := hL5.cells 3 (by decide)
          exact bodyPost_ret (v := .tuple #[.int .i64 0, .agg zero4, .int .i64 0, .bool false]) (by simp [results, Try.results12, go_sem, q0, q1, q2, q3, zero4]) rfl ⟨fieldT_no HX2.out rfl, below_laid hBr hL5 (by omega) hBr.size⟩
    · rw [if_neg h2] at hfs
      have HX := Lib.hid hfs
      clear hfs
      go_wp2_with (refine wpList_store_row rfl 26 (.tmp 7) (.tmp 30) rfl 4 j0 hj0 hj1 (W.heap.size + 1) 0 zero4 rfl rfl rfl zero4_one (row_there4 hS4 rfl).1 (row_there4 hS4 rfl).2 ?_; intro w5 hL5)
      have q0 : w5.cell? ⟨W.heap.size + 1, 0, none⟩ = some (.int .i64 0) := hL5.cells 0 (by decide)
      have q1 : w5.cell? ⟨W.heap.size + 1, 1, none⟩ = some (.string nil0) := hL5.cells 1 (by decide)
      have q2 : w5.cell? ⟨W.heap.size + 1, 2, none⟩ = some (.int .i64 0) := hL5.cells 2 (by decide)
      have q3 : w5.cell? ⟨W.heap.size + 1, 3, none⟩ = some (.slice none 0 0) := hL5.cells 3 (by decide)
      exact bodyPost_ret (v := .tuple #[.int .i64 0, .agg zero4, .int .i64 0, .bool false]) (by simp [results, Try.results12, go_sem, q0, q1, q2, q3, zero4]) rfl ⟨fieldT_no HX.out rfl, below_laid hB4 hL5 (by omega) hB4.size⟩
end Go.Proofs.Ytioediibbgklcaa.W
