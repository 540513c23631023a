/- ferruleref05.Field. -/
import Derived.Test.YtioediibbgklcaaTyVr
namespace Go.Proofs.Ytioediibbgklcaa.W
open Go Go.RowKit Go.Proofs
set_option linter.unusedVariables false
set_option linter.unusedSimpArgs false
set_option maxHeartbeats 8000000 in
set_option maxRecDepth 100000 in
theorem reffield_calls (W0 W : World) (hb : Below W0.heap.size W0 W) (la : Option Addr) (its : List It) (lc : Nat) (hn : its.length ≤ 9223372036854775807) (hI : ItsAt W0 la its) (hF : FewOf its) (t : Ty) (ea : Option Addr) (el ec : Nat) (s : ByteArray) :
    Calls Try.prog 16 #[.slice la its.length lc, .agg #[.int .i64 t.kind, .string t.name, .int .i64 t.n, .slice ea el ec], .string s] W fun e w' => FieldT W0 (fieldS its t s) e ∧ Below W.heap.size W w' := by
  have hidx := fun X hX => index_calls W0 X hX la its lc hn hI t.name
  have hwords := fun X hX => refwords_calls W0 X hX la its lc hn hI hF
  obtain ⟨nn, hnl⟩ : ∃ nn, its.length = nn := ⟨_, rfl⟩
  rw [hnl] at hidx hwords ⊢
  have HNN := Lib.hid hnl
  clear hnl
  go_enter Try.func16, Try.ntmps16
  go_upto_region 1 with fail
  have hb1 : Below W.heap.size W (W.alloc (.cells #[.int .i64 t.kind, .string t.name, .int .i64 t.n, .slice ea el ec] 26)) := (Below.refl _ _).alloc (Nat.le_refl _) _
  have hT1 := heap_alloc_new W (.cells #[.int .i64 t.kind, .string t.name, .int .i64 t.n, .slice ea el ec] 26)
  obtain ⟨w1, hw1⟩ : ∃ y, W.alloc (.cells #[.int .i64 t.kind, .string t.name, .int .i64 t.n, .slice ea el ec] 26) = y := ⟨_, rfl⟩
  have hs1 : w1.heap.size = W.heap.size + 1 := by rw [← hw1]; simp
  rw [hw1] at hb1 hT1 ⊢
  have hb2 : Below w1.heap.size w1 (w1.alloc (.cells zero4 26)) := (Below.refl _ _).alloc (Nat.le_refl _) _
  have hS1 := heap_alloc_new w1 (.cells zero4 26)
  obtain ⟨w2, hw2⟩ : ∃ y, w1.alloc (.cells zero4 26) = y := ⟨_, rfl⟩
  have hs2 : w2.heap.size = W.heap.size + 2 := by rw [← hw2]; simp [hs1]
  rw [hw2] at hb2 hS1
  rw [hs1] at hS1
  show Code.wp Try.prog _ _ _ (w1.alloc (.cells zero4 26))
  rw [hw2]
  have hB2 : Below W.heap.size W w2 := hb1.trans (hb2.mono hb1.size)
  have hT2 := (hb2.block W.heap.size (by omega)).trans hT1
  have e0 : w2.cell? ⟨W.heap.size, 0, none⟩ = some (.int .i64 t.kind) := by rw [cell_of_row _ _ _ _ 26 (0, 0) hT2]; rfl
  have e1 : w2.cell? ⟨W.heap.size, 1, none⟩ = some (.string t.name) := by rw [cell_of_row _ _ _ _ 26 (0, 0) hT2]; rfl
  have hc := hidx w2 (hb.trans (hB2.mono hb.size))
  clear hw1 hw2 hb1 hb2 hidx hT1 hT2 hs1
  obtain ⟨j0, hj0, hj1⟩ := info_size info26s
  have hz4 : ∀ X : World, X.heap[W.heap.size + 1]? = some (.cells zero4 26 (0, 0)) → X.cell? ⟨W.heap.size + 1, 0, none⟩ = some (.int .i64 0) ∧ X.cell? ⟨W.heap.size + 1, 1, none⟩ = some (.string nil0) ∧ X.cell? ⟨W.heap.size + 1, 2, none⟩ = some (.int .i64 0) ∧ X.cell? ⟨W.heap.size + 1, 3, none⟩ = some (.slice none 0 0) ∧ X.frozen? ⟨W.heap.size + 1, 0, none⟩ = false ∧ X.frozen? ⟨W.heap.size + 1, 1, none⟩ = false ∧ X.frozen? ⟨W.heap.size + 1, 2, none⟩ = false ∧ X.frozen? ⟨W.heap.size + 1, 3, none⟩ = false := fun X h =>
    ⟨by rw [cell_of_row _ _ _ _ 26 (0, 0) h]; rfl, by rw [cell_of_row _ _ _ _ 26 (0, 0) h]; rfl, by rw [cell_of_row _ _ _ _ 26 (0, 0) h]; rfl, by rw [cell_of_row _ _ _ _ 26 (0, 0) h]; rfl, frozen_of_row _ _ _ _ 26 h, frozen_of_row _ _ _ _ 26 h, frozen_of_row _ _ _ _ 26 h, frozen_of_row _ _ _ _ 26 h⟩
  have HZ := Lib.hid hz4
  have hfs : fieldS its t s = match itemOf its t with
      | none => none
      | some it => if it.kind = 2 then fieldP its s it.ps 0 0 else none := rfl
  rw [itemOf_eq] at hfs
  clear hz4
  go_upto_region 2 with (go_at_call 11; refine hc.mono ?_; rintro e w3 ⟨rfl, hb3⟩)
  have hB3 := hB2.trans (hb3.mono hB2.size)
  have hB03 := hb.trans (hB3.mono hb.size)
  have hS3 := (hb3.block (W.heap.size + 1) (by omega)).trans hS1
  have d0 := (hb3.cell (p := ⟨W.heap.size, 0, none⟩) (cell_lt e0)).trans e0
  have hs3 : W.heap.size + 1 < w3.heap.size := (Array.getElem?_eq_some_iff.1 hS3).1
  clear hc e0 e1 hS1 hs2 hb3 hB2
  by_cases h9 : t.kind = 9
  · rw [if_pos h9] at hfs
    rcases find_idx (p := named? t.name) its with ⟨q1, q2⟩ | ⟨k, it, q1, q2, q3⟩
    · rw [q2] at hfs
      rw [q1]
      simp only [idxOf]
      have HX := Lib.hid hfs
      clear hfs q1 q2
      go_wp2_with (refine wpList_store_row rfl 26 (.tmp 7) (.tmp 34) rfl 4 j0 hj0 hj1 (W.heap.size + 1) 0 zero4 rfl rfl rfl zero4_one (row_there4 hS3 rfl).1 (row_there4 hS3 rfl).2 ?_; intro w5 hL5)
      have q0 : w5.cell? ⟨W.heap.size + 1, 0, none⟩ = some (.int .i64 0) := hL5.cells 0 (by decide)
      have q1 : w5.cell? ⟨W.heap.size + 1, 1, none⟩ = some (.string nil0) := hL5.cells 1 (by decide)
      have q2 : w5.cell? ⟨W.heap.size + 1, 2, none⟩ = some (.int .i64 0) := hL5.cells 2 (by decide)
      have q3 : w5.cell? ⟨W.heap.size + 1, 3, none⟩ = some (.slice none 0 0) := hL5.cells 3 (by decide)
      exact bodyPost_ret (v := .tuple #[.int .i64 0, .agg zero4, .int .i64 0, .bool false]) (by simp [results, Try.results16, go_sem, q0, q1, q2, q3, zero4]) rfl ⟨fieldT_no HX.out rfl, below_laid hB3 hL5 (by omega) hB3.size⟩
    · rw [q3] at hfs
      rw [q1]
      simp only at hfs
      simp only [idxOf]
      obtain ⟨b, o, cs, rfl, hl, hcs, hIt⟩ := hI k it q2
      obtain ⟨pa, pc, va, vc, _, p0, p1, p3, p4, _, hvl, hP, hV⟩ := hIt.heads
      have hkn : k < nn := by have := (List.getElem?_eq_some_iff.1 q2).1; have := HNN.out; omega
      have hk0 : ¬ ((k : Int) < 0) := by omega
      have hpl := (hF.each k it q2).ps
      have X0 := Lib.hid ((hcs 0 (by omega)).trans p0)
      have X3 := Lib.hid ((hcs 3 (by omega)).trans p3)
      clear hcs p0 p1 p3 p4 hIt q1 q2 q3 hl
      have x0 := keep_cell hB03 X0.out
      rw [Nat.add_zero] at x0
      by_cases h2 : it.kind = 2
      · rw [if_pos h2] at hfs
        have HX := Lib.hid hfs
        obtain ⟨ps, hpse⟩ : ∃ ps, it.ps = ps := ⟨_, rfl⟩
        rw [hpse] at X3 hP hpl HX
        obtain ⟨n, hnn⟩ : ∃ n, ps.length = n := ⟨_, rfl⟩
        rw [hnn] at X3 hpl
        have HN := Lib.hid hnn
        clear hfs hnn hpse
        go_wp2
        clear h9 d0 x0
        go_loopw [11, 12] (fun av i wr => ∃ k a : Nat, k ≤ n ∧ i = .int .i64 k ∧ av = .int .i64 a ∧ a ≤ 128 * k ∧ Below w3.heap.size w3 wr ∧ fieldP its s ps 0 0 = fieldP its s (ps.drop k) k a) (fun _ i _ => n - (intOf i).toNat)
        case atStart => exact ⟨0, 0, Nat.zero_le _, rfl, rfl, by omega, Below.refl _ _, rfl⟩
        case round =>
          obtain ⟨j, a, hj, rfl, rfl, ha, hB, hfp⟩ := hrel
          have hBr := hB3.trans (hB.mono hB3.size)
          have hB0 := hb.trans (hBr.mono hb.size)
          have hSr := (hB.block _ hs3).trans hS3
          have x3 := keep_cell hB0 X3.out
          by_cases hlt : j < n
          · obtain ⟨pr, hpr⟩ : ∃ pr, ps[j]? = some pr := ⟨_, List.getElem?_eq_getElem (by have := HN.out; omega)⟩
            obtain ⟨b2, o2, mu, x8, c0, c1, c2, c3, rfl, y0, y1, y2, y3, y4, y5, y6, hT0⟩ := hP j pr hpr
            obtain ⟨fa, fc, rfl, rfl, rfl, rfl, _, _⟩ := hT0.inv
            have Y0 := Lib.hid y0
            have Y2 := Lib.hid y2
            have Y3 := Lib.hid y3
            have Y4 := Lib.hid y4
            have Y5 := Lib.hid y5
            have z2 := keep_cell hB0 y2
            have z3 := keep_cell hB0 y3
            have z4 := keep_cell hB0 y4
            have z5 := keep_cell hB0 y5
            rw [drop_at hpr, fieldP] at hfp
            have hcs := hwords wr hB0 pr.2 fa fc hT0
            have hcs : Calls Try.prog 15 #[.slice (some ⟨b, o, none⟩) nn lc, .agg #[.int .i64 pr.2.kind, .string pr.2.name, .int .i64 pr.2.n, .slice fa pr.2.el.length fc]] wr _ := hcs
            clear y0 y1 y2 y3 y4 y5 y6
            cases hw : wordsS its pr.2 with
            | none =>
              rw [hw] at hfp hcs
              simp only at hfp
              have HX2 := Lib.hid (HX.out.trans hfp)
              simp only [wordsV] at hcs
              clear hfp hw
              go_upto_region 13 with (go_at_call 15; refine hcs.mono ?_; rintro e w7 ⟨rfl, hb7⟩)
              have hB7 := hBr.trans (hb7.mono hBr.size)
              have hS7 := (hb7.block _ (Array.getElem?_eq_some_iff.1 hSr).1).trans hSr
              go_wp2_with (refine wpList_store_row rfl 26 (.tmp 7) (.tmp 86) rfl 4 j0 hj0 hj1 (W.heap.size + 1) 0 zero4 rfl rfl rfl zero4_one (row_there4 hS7 rfl).1 (row_there4 hS7 rfl).2 ?_; intro w8 hL5)
              have q0 : w8.cell? ⟨W.heap.size + 1, 0, none⟩ = some (.int .i64 0) := hL5.cells 0 (by decide)
              have q1 : w8.cell? ⟨W.heap.size + 1, 1, none⟩ = some (.string nil0) := hL5.cells 1 (by decide)
              have q2 : w8.cell? ⟨W.heap.size + 1, 2, none⟩ = some (.int .i64 0) := hL5.cells 2 (by decide)
              have q3 : w8.cell? ⟨W.heap.size + 1, 3, none⟩ = some (.slice none 0 0) := hL5.cells 3 (by decide)
              exact bodyPost_ret (v := .tuple #[.int .i64 0, .agg zero4, .int .i64 0, .bool false]) (by simp [results, Try.results16, go_sem, q0, q1, q2, q3, zero4]) rfl ⟨fieldT_no HX2.out rfl, below_laid hB7 hL5 (by omega) hB7.size⟩
            | some m =>
              rw [hw] at hfp hcs
              simp only at hfp
              have hm8 := words_le hw
              simp only [wordsV] at hcs
              clear hw
              cases hq : (pr.1.toList == s.toList) with
              | true =>
                rw [hq] at hfp
                simp only [if_true] at hfp
                have HX2 := Lib.hid (HX.out.trans hfp)
                clear hfp
                go_wp2_with (go_at_call 15; refine hcs.mono ?_; rintro e w7 ⟨rfl, hb7⟩; have hB07 := hB0.trans (hb7.mono hB0.size); have k0 := keep_cell hB07 Y0.out; have g3 := keep_cell hB07 X3.out)
                have hB7 := hBr.trans (hb7.mono hBr.size)
                have hS7 := (hb7.block _ (Array.getElem?_eq_some_iff.1 hSr).1).trans hSr
                obtain ⟨z0, z1, z2, z3, u0, u1, u2, u3⟩ := HZ.out w7 hS7
                have m2 := keep_cell hB07 Y2.out
                have m3 := keep_cell hB07 Y3.out
                have m4 := keep_cell hB07 Y4.out
                have m5 := keep_cell hB07 Y5.out
                clear k0 hcs
                go_region
                all_goals
                  obtain ⟨Y, hY, r0, r1, r2, r3, hG⟩ := put4 hS7 rfl (.int .i64 pr.2.kind) (.string pr.2.name) (.int .i64 pr.2.n) (.slice fa pr.2.el.length fc)
                  rw [hY]
                  have hBY := below_dr (hB7.grown hG hB7.size (fun g hg => by injection hg with hg; omega))
                  have d0 : Y.drew.cell? ⟨W.heap.size + 1, 0, none⟩ = _ := r0
                  have d1 : Y.drew.cell? ⟨W.heap.size + 1, 1, none⟩ = _ := r1
                  have d2 : Y.drew.cell? ⟨W.heap.size + 1, 2, none⟩ = _ := r2
                  have d3 : Y.drew.cell? ⟨W.heap.size + 1, 3, none⟩ = _ := r3
                  go_wp2
                  exact bodyPost_ret (v := .tuple #[.int .i64 j, .agg (cells4of pr.2 fa fc).toArray, .int .i64 a, .bool true]) (by simp [results, Try.results16, go_sem, d0, d1, d2, d3]) rfl ⟨fieldT_yes HX2.out ⟨_, _, rfl, hT0⟩, hBY⟩
              | false =>
                rw [hq] at hfp
                simp only [if_false, Bool.false_eq_true] at hfp
                have HF := Lib.hid hfp
                clear hfp
                go_wp2_with (go_at_call 15; refine hcs.mono ?_; rintro e w7 ⟨rfl, hb7⟩; have hB07 := hB0.trans (hb7.mono hB0.size); have k0 := keep_cell hB07 Y0.out; have g3 := keep_cell hB07 X3.out)
                have hB7 := hB.trans (hb7.mono hB.size)
                go_roundw
                case rel => exact ⟨j + 1, a + m, by omega, by go_num, by go_num, by omega, hB7, HF.out⟩
                case measure => simp [intOf]; omega
          · obtain rfl : j = n := by omega
            have hno : fieldP its s ps 0 0 = none := by rw [hfp, List.drop_of_length_le (by have := HN.out; omega)]; rfl
            have HX2 := Lib.hid (HX.out.trans hno)
            clear hno hfp
            go_upto_region 13 with fail
            go_wp2_with (refine wpList_store_row rfl 26 (.tmp 7) (.tmp 86) rfl 4 j0 hj0 hj1 (W.heap.size + 1) 0 zero4 rfl rfl rfl zero4_one (row_there4 hSr rfl).1 (row_there4 hSr rfl).2 ?_; intro w8 hL5)
            have q0 : w8.cell? ⟨W.heap.size + 1, 0, none⟩ = some (.int .i64 0) := hL5.cells 0 (by decide)
            have q1 : w8.cell? ⟨W.heap.size + 1, 1, none⟩ = some (.string nil0) := hL5.cells 1 (by decide)
            have q2 : w8.cell? ⟨W.heap.size + 1, 2, none⟩ = some (.int .i64 0) := hL5.cells 2 (by decide)
            have q3 : w8.cell? ⟨W.heap.size + 1, 3, none⟩ = some (.slice none 0 0) := hL5.cells 3 (by decide)
            exact bodyPost_ret (v := .tuple #[.int .i64 0, .agg zero4, .int .i64 0, .bool false]) (by simp [results, Try.results16, go_sem, q0, q1, q2, q3, zero4]) rfl ⟨fieldT_no HX2.out rfl, below_laid hBr hL5 (by omega) hBr.size⟩
      · rw [if_neg h2] at hfs
        have HX := Lib.hid hfs
        have hne : (it.kind != 2) = true := by simp [h2]
        clear hfs
        go_wp2_with (refine wpList_store_row rfl 26 (.tmp 7) (.tmp 34) rfl 4 j0 hj0 hj1 (W.heap.size + 1) 0 zero4 rfl rfl rfl zero4_one (row_there4 hS3 rfl).1 (row_there4 hS3 rfl).2 ?_; intro w5 hL5)
        have q0 : w5.cell? ⟨W.heap.size + 1, 0, none⟩ = some (.int .i64 0) := hL5.cells 0 (by decide)
        have q1 : w5.cell? ⟨W.heap.size + 1, 1, none⟩ = some (.string nil0) := hL5.cells 1 (by decide)
        have q2 : w5.cell? ⟨W.heap.size + 1, 2, none⟩ = some (.int .i64 0) := hL5.cells 2 (by decide)
        have q3 : w5.cell? ⟨W.heap.size + 1, 3, none⟩ = some (.slice none 0 0) := hL5.cells 3 (by decide)
        exact bodyPost_ret (v := .tuple #[.int .i64 0, .agg zero4, .int .i64 0, .bool false]) (by simp [results, Try.results16, go_sem, q0, q1, q2, q3, zero4]) rfl ⟨fieldT_no HX.out rfl, below_laid hB3 hL5 (by omega) hB3.size⟩
  · rw [if_neg h9] at hfs
    have HX := Lib.hid hfs
    clear hfs
    go_wp2_with (refine wpList_store_row rfl 26 (.tmp 7) (.tmp 34) rfl 4 j0 hj0 hj1 (W.heap.size + 1) 0 zero4 rfl rfl rfl zero4_one (row_there4 hS3 rfl).1 (row_there4 hS3 rfl).2 ?_; intro w5 hL5)
    have q0 : w5.cell? ⟨W.heap.size + 1, 0, none⟩ = some (.int .i64 0) := hL5.cells 0 (by decide)
    have q1 : w5.cell? ⟨W.heap.size + 1, 1, none⟩ = some (.string nil0) := hL5.cells 1 (by decide)
    have q2 : w5.cell? ⟨W.heap.size + 1, 2, none⟩ = some (.int .i64 0) := hL5.cells 2 (by decide)
    have q3 : w5.cell? ⟨W.heap.size + 1, 3, none⟩ = some (.slice none 0 0) := hL5.cells 3 (by decide)
    exact bodyPost_ret (v := .tuple #[.int .i64 0, .agg zero4, .int .i64 0, .bool false]) (by simp [results, Try.results16, go_sem, q0, q1, q2, q3, zero4]) rfl ⟨fieldT_no HX.out rfl, below_laid hB3 hL5 (by omega) hB3.size⟩
end Go.Proofs.Ytioediibbgklcaa.W
