/- TypesAdd: the walk of the law. -/
import Derived.Test.YtioediibbgklcaaTyZ
namespace Go.Proofs.Ytioediibbgklcaa.W
open Go Go.RowKit Go.Proofs
set_option linter.unusedVariables false
set_option linter.unusedSimpArgs false
set_option maxHeartbeats 8000000 in
set_option maxRecDepth 100000 in
theorem typesadd_walk (W : World) (la : Option Addr) (its : List It) (lc : Nat) (hn : its.length ≤ 140737488351232) (hI : ItsAt W la its) (hS : ∀ (i : Nat) it, its[i]? = some it → Small it) (t : Ty) (ea : Option Addr) (ec : Nat) (hT : TyAt W (cells4of t ea ec) t) (x : Int) :
    Calls Try.prog 4 #[.slice la its.length lc, .agg (cells4of t ea ec).toArray, .int .i64 x] W fun e w' => e = .returned (.bool true) ∧ Below W.heap.size W w' := by
  have hn' : its.length ≤ 9223372036854775807 := Nat.le_trans hn (by omega)
  have hfew := fun X hX => few_calls W X hX la its lc hn hI hS
  have hwords := fun (X : World) (hX : Below W.heap.size W X) (u : Ty) ua uc (hu : TyAt X (cells4of u ua uc) u) => words_calls X X (Below.refl _ _) la its lc hn' (its_keep hI hX) u ua uc hu
  have hcopy := fun (X : World) (hX : Below W.heap.size W X) (u : Ty) ua uc (hu : TyAt X (cells4of u ua uc) u) => copy_calls X X (Below.refl _ _) la its lc hn' (its_keep hI hX) u ua uc hu
  have hindex := fun X hX => index_calls W X hX la its lc hn' hI t.name
  obtain ⟨nn, hnl⟩ : ∃ nn, its.length = nn := ⟨_, rfl⟩
  rw [hnl] at hfew hwords hcopy hindex ⊢
  have HNN := Lib.hid hnl
  clear hnl
  go_enter Try.func4, Try.ntmps4
  go_upto_region 1 with fail
  have hb1 : Below W.heap.size W (W.alloc (.cells (cells4of t ea ec).toArray 26)) := (Below.refl _ _).alloc (Nat.le_refl _) _
  have hT1 := heap_alloc_new W (.cells (cells4of t ea ec).toArray 26)
  show Code.wp Try.prog _ _ _ (W.alloc (.cells (cells4of t ea ec).toArray 26))
  obtain ⟨w1, hw1⟩ : ∃ y, W.alloc (.cells (cells4of t ea ec).toArray 26) = y := ⟨_, rfl⟩
  rw [hw1] at hb1 hT1 ⊢
  have hE : ∀ X, Below w1.heap.size w1 X → X.cell? ⟨W.heap.size, 0, none⟩ = some (.int .i64 t.kind) ∧ X.cell? ⟨W.heap.size, 1, none⟩ = some (.string t.name) ∧ X.cell? ⟨W.heap.size, 2, none⟩ = some (.int .i64 t.n) ∧ X.cell? ⟨W.heap.size, 3, none⟩ = some (.slice ea t.el.length ec) := fun X hX => by
    have h := (hX.block W.heap.size (Array.getElem?_eq_some_iff.1 hT1).1).trans hT1
    exact ⟨by rw [cell_of_row _ _ _ _ 26 (0, 0) h]; rfl, by rw [cell_of_row _ _ _ _ 26 (0, 0) h]; rfl, by rw [cell_of_row _ _ _ _ 26 (0, 0) h]; rfl, by rw [cell_of_row _ _ _ _ 26 (0, 0) h]; rfl⟩
  have hW : ∀ X, Below w1.heap.size w1 X → Below W.heap.size W X := fun X hX => hb1.trans (hX.mono hb1.size)
  have hf1 := hfew w1 hb1
  have HE := Lib.hid hE
  clear hw1 hfew hT1 hE
  go_upto_if 28 with (go_at_call 8; refine hf1.mono ?_; rintro e w2 ⟨hFT, hb2⟩; obtain ⟨fw, rfl, hFw⟩ := hFT.ex)
  cases fw with
  | false =>
    as_aux_lemma =>
      go_wp2
      exact bodyPost_ret (v := .bool true) (by simp [results, Try.results4, go_sem]) rfl ⟨rfl, hW _ hb2⟩
  | true =>
    as_aux_lemma =>
      have hF := hFw rfl
      clear hFw hFT hf1
      go_upto_region 3 with fail
      have hc3 := words_calls w2 w2 (Below.refl _ _) none [] 0 (by simp) (fun i it h => by simp at h) boolT none 0 (.mk 2 nil0 0 none 0 [] (by simp) 0 0 (fun _ _ => .bool false) (by simp) (by simp) (by simp))
      rw [bool_words] at hc3
      have hc3 : Calls Try.prog 7 #[.slice none 0 0, .agg #[.int .i64 2, .string nil0, .int .i64 0, .slice none 0 0]] w2 (fun e w' => e = .returned (.tuple #[.int .i64 1, .bool true]) ∧ Below w2.heap.size w2 w') := hc3
      go_upto_region 6 with (go_at_call 7; refine hc3.mono ?_; rintro e w3 ⟨rfl, hb3⟩)
      have hB3 := hb2.trans (hb3.mono hb2.size)
      clear hc3 hb3 hb2
      go_cut [2] (fun nv wx => (∃ m : Nat, m ≤ 7 ∧ nv = .int .i64 (((1 + m : Nat) : Nat) : Int)) ∧ w3 = wx)
      case first =>
        as_aux_lemma =>
          obtain ⟨m, hm, em⟩ := and7 x
          go_wp2
          go_meet
          refine ⟨⟨m, hm, ?_⟩, rfl⟩
          first
            | rfl
            | (congr 1; omega)
      case rest =>
        as_aux_lemma =>
          obtain ⟨⟨m, hm, rfl⟩, rfl⟩ := hcut
          obtain ⟨N, hN⟩ : ∃ N, 1 + m = N := ⟨_, rfl⟩
          have hN1 : 1 ≤ N := by omega
          have hN8 : N ≤ 8 := by omega
          rw [hN]
          clear hN hm
          obtain ⟨oa, hoa⟩ : ∃ oa, wordsS its t = oa := ⟨_, rfl⟩
          obtain ⟨ob, hob⟩ : ∃ ob, wordsS its (arrT N t) = ob := ⟨_, rfl⟩
          have HOA := Lib.hid hoa
          have HOB := Lib.hid hob
          obtain ⟨A0, hA0⟩ : ∃ A0, oa.getD 0 = A0 := ⟨_, rfl⟩
          obtain ⟨k0, hk0⟩ : ∃ k0, oa.isSome = k0 := ⟨_, rfl⟩
          have HA0 := Lib.hid hA0
          have HK0 := Lib.hid hk0
          go_upto_region 7 with fail
          go_cut [9, 10] (fun av ov wx => av = .int .i64 ((A0 : Nat) : Int) ∧ ov = .bool k0 ∧ Below w1.heap.size w1 wx)
          case first =>
            as_aux_lemma =>
              obtain ⟨e0, e1, e2, e3⟩ := HE.out w3 hB3
              have hc := hwords w3 (hW _ hB3) t ea ec (hT.keep (hW _ hB3))
              rw [hoa, wordsV_eq, hA0, hk0] at hc
              go_wp2_with (go_at_call 7; refine hc.mono ?_; rintro e w4 ⟨rfl, hb4⟩)
              go_meet
              exact ⟨rfl, rfl, hB3.trans (hb4.mono hB3.size)⟩
          case rest =>
            as_aux_lemma =>
              obtain ⟨rfl, rfl, hB4⟩ := hcut
              clear hB3 w3 hA0 hk0
              obtain ⟨w4, hw4⟩ : ∃ y, wc = y := ⟨_, rfl⟩
              rw [hw4] at hB4 ⊢
              clear hw4 wc
              go_upto_region 8 with fail
              go_cut [11, 12] (fun av ov wx => av = .int .i64 ((ob.getD 0 : Nat) : Int) ∧ ov = .bool ob.isSome ∧ Below w1.heap.size w1 wx)
              case first =>
                as_aux_lemma =>
                  obtain ⟨e0, e1, e2, e3⟩ := HE.out w4 hB4
                  have hb5 : Below w4.heap.size w4 (w4.alloc (.cells (cells4of t ea ec).toArray 26)) := (Below.refl _ _).alloc (Nat.le_refl _) _
                  have hB5 := hB4.trans (hb5.mono hB4.size)
                  have hc := hwords _ (hW _ hB5) (arrT N t) _ _ (one_at (hT.keep (hW _ hB4)) 10 ⟨#[]⟩ (N : Nat))
                  rw [hob, wordsV_eq] at hc
                  have hc : Calls Try.prog 7 #[.slice la nn lc, .agg #[.int .i64 10, .string ⟨#[]⟩, .int .i64 (N : Nat), .slice (some ⟨w4.heap.size, 0, none⟩) 1 1]] (w4.alloc (.cells #[.int .i64 t.kind, .string t.name, .int .i64 t.n, .slice ea t.el.length ec] 26)) _ := hc
                  go_wp2_with (go_at_call 7; refine hc.mono ?_; rintro e w6 ⟨rfl, hb6⟩)
                  go_meet
                  exact ⟨rfl, rfl, hB5.trans (hb6.mono hB5.size)⟩
              case rest =>
                as_aux_lemma =>
                  obtain ⟨rfl, rfl, hB5⟩ := hcut
                  clear hB4 w4
                  obtain ⟨w5, hw5⟩ : ∃ y, wc = y := ⟨_, rfl⟩
                  rw [hw5] at hB5 ⊢
                  clear hw5 wc
                  go_upto_region 9 with fail
                  go_cut [88] (fun v wx => v = .bool false ∧ Below w1.heap.size w1 wx)
                  case first =>
                    as_aux_lemma =>
                      obtain ⟨e0, e1, e2, e3⟩ := HE.out w5 hB5
                      cases oa with
                      | none =>
                        have hob' : ob = none := by
                          cases ob with
                          | none => rfl
                          | some b => obtain ⟨a, h1, _⟩ := arr_words hN1 HOB.out; rw [HOA.out] at h1; cases h1
                        subst hob'
                        obtain rfl : k0 = false := HK0.out.symm
                        go_wp2
                        go_meet
                        exact ⟨rfl, hB5⟩
                      | some a =>
                        obtain rfl : a = A0 := HA0.out
                        obtain rfl : k0 = true := HK0.out.symm
                        have ha8 := words_le HOA.out
                        have hna : N * a ≤ 8 * 128 := Nat.mul_le_mul hN8 ha8
                        cases ob with
                        | some b =>
                          obtain ⟨a', h1, h2⟩ := arr_words hN1 HOB.out
                          rw [HOA.out] at h1
                          injection h1 with h1
                          subst h1
                          obtain ⟨q, hq⟩ : ∃ q, N * a = q := ⟨_, rfl⟩
                          have hmul : (N : Int) * (a : Int) = (q : Int) := by rw [← hq]; exact (Int.natCast_mul N a).symm
                          rw [hq] at h2 hna
                          subst h2
                          have hwm : wrap64 ((N : Int) * (a : Int)) = (b : Int) := by rw [hmul]; simp only [wrap64]; omega
                          go_wp2
                          go_meet
                          exact ⟨rfl, hB5⟩
                        | none =>
                          obtain ⟨q, hq⟩ : ∃ q, N * a = q := ⟨_, rfl⟩
                          have hmul : (N : Int) * (a : Int) = (q : Int) := by rw [← hq]; exact (Int.natCast_mul N a).symm
                          rw [hq] at hna
                          have hwm : wrap64 ((N : Int) * (a : Int)) = (q : Int) := by rw [hmul]; simp only [wrap64]; omega
                          by_cases hq8 : (q : Int) ≤ 128
                          · have hkn := arr_known HOA.out (by omega) HOB.out
                            have hsm := small_calls W w5 (hW _ hB5) la its lc hn' hI hF t ea ec hT N
                            rw [hkn, HNN.out] at hsm
                            have hsm : Calls Try.prog 9 #[.slice la nn lc, .agg #[.int .i64 t.kind, .string t.name, .int .i64 t.n, .slice ea t.el.length ec], .int .i64 (N : Nat)] w5 (fun e w' => e = .returned (.bool false) ∧ Below w5.heap.size w5 w') := hsm
                            go_wp2_with (go_at_call 9; refine hsm.mono ?_; rintro e w7 ⟨rfl, hb7⟩)
                            go_meet
                            exact ⟨rfl, hB5.trans (hb7.mono hB5.size)⟩
                          · go_wp2
                            go_meet
                            exact ⟨rfl, hB5⟩
                  case rest =>
                    as_aux_lemma =>
                      obtain ⟨rfl, hB6⟩ := hcut
                      clear hB5 w5
                      obtain ⟨w6, hw6⟩ : ∃ y, wc = y := ⟨_, rfl⟩
                      rw [hw6] at hB6 ⊢
                      clear hw6 wc
                      go_upto_region 11 with fail
                      go_cut [13, 14] (fun av ov wx => av = .int .i64 1 ∧ ov = .bool true ∧ Below w1.heap.size w1 wx)
                      case first =>
                        as_aux_lemma =>
                          obtain ⟨e0, e1, e2, e3⟩ := HE.out w6 hB6
                          have hb7 : Below w6.heap.size w6 (w6.alloc (.cells (cells4of t ea ec).toArray 26)) := (Below.refl _ _).alloc (Nat.le_refl _) _
                          have hB7 := hB6.trans (hb7.mono hB6.size)
                          have hc := hwords _ (hW _ hB7) (boxT t) _ _ (one_at (hT.keep (hW _ hB6)) 11 ⟨#[]⟩ 0)
                          rw [(box_words its t).1] at hc
                          have hc : Calls Try.prog 7 #[.slice la nn lc, .agg #[.int .i64 11, .string ⟨#[]⟩, .int .i64 0, .slice (some ⟨w6.heap.size, 0, none⟩) 1 1]] (w6.alloc (.cells #[.int .i64 t.kind, .string t.name, .int .i64 t.n, .slice ea t.el.length ec] 26)) (fun e w' => e = .returned (.tuple #[.int .i64 1, .bool true]) ∧ Below (w6.alloc (.cells #[.int .i64 t.kind, .string t.name, .int .i64 t.n, .slice ea t.el.length ec] 26)).heap.size (w6.alloc (.cells #[.int .i64 t.kind, .string t.name, .int .i64 t.n, .slice ea t.el.length ec] 26)) w') := hc
                          go_wp2_with (go_at_call 7; refine hc.mono ?_; rintro e w8 ⟨rfl, hb8⟩)
                          go_meet
                          exact ⟨rfl, rfl, hB7.trans (hb8.mono hB7.size)⟩
                      case rest =>
                        as_aux_lemma =>
                          obtain ⟨rfl, rfl, hB7⟩ := hcut
                          clear hB6 w6
                          obtain ⟨w7, hw7⟩ : ∃ y, wc = y := ⟨_, rfl⟩
                          rw [hw7] at hB7 ⊢
                          clear hw7 wc
                          go_upto_region 12 with fail
                          go_cut [109] (fun v wx => v = .bool false ∧ Below w1.heap.size w1 wx)
                          case first =>
                            as_aux_lemma =>
                              obtain ⟨e0, e1, e2, e3⟩ := HE.out w7 hB7
                              have hb8 : Below w7.heap.size w7 (w7.alloc (.cells (cells4of t ea ec).toArray 26)) := (Below.refl _ _).alloc (Nat.le_refl _) _
                              have hB8 := hB7.trans (hb8.mono hB7.size)
                              have hc := hcopy _ (hW _ hB8) (boxT t) _ _ (one_at (hT.keep (hW _ hB7)) 11 ⟨#[]⟩ 0)
                              rw [(box_words its t).2] at hc
                              have hc : Calls Try.prog 10 #[.slice la nn lc, .agg #[.int .i64 11, .string ⟨#[]⟩, .int .i64 0, .slice (some ⟨w7.heap.size, 0, none⟩) 1 1]] (w7.alloc (.cells #[.int .i64 t.kind, .string t.name, .int .i64 t.n, .slice ea t.el.length ec] 26)) (fun e w' => e = .returned (.bool false) ∧ Below (w7.alloc (.cells #[.int .i64 t.kind, .string t.name, .int .i64 t.n, .slice ea t.el.length ec] 26)).heap.size (w7.alloc (.cells #[.int .i64 t.kind, .string t.name, .int .i64 t.n, .slice ea t.el.length ec] 26)) w') := hc
                              go_wp2_with (go_at_call 10; refine hc.mono ?_; rintro e w9 ⟨rfl, hb9⟩)
                              go_meet
                              exact ⟨rfl, hB8.trans (hb9.mono hB8.size)⟩
                          case rest =>
                            as_aux_lemma =>
                              obtain ⟨rfl, hB8⟩ := hcut
                              clear hB7 w7
                              obtain ⟨w8, hw8⟩ : ∃ y, wc = y := ⟨_, rfl⟩
                              rw [hw8] at hB8 ⊢
                              clear hw8 wc
                              go_upto_region 14 with fail
                              go_cut [15] (fun v wx => v = .int .i64 (idxOf (its.findIdx? (named? t.name))) ∧ Below w1.heap.size w1 wx)
                              case first =>
                                as_aux_lemma =>
                                  obtain ⟨e0, e1, e2, e3⟩ := HE.out w8 hB8
                                  have hc := hindex w8 (hW _ hB8)
                                  go_wp2_with (go_at_call 11; refine hc.mono ?_; rintro e w9 ⟨rfl, hb9⟩)
                                  go_meet
                                  exact ⟨rfl, hB8.trans (hb9.mono hB8.size)⟩
                              case rest =>
                                as_aux_lemma =>
                                  obtain ⟨rfl, hB9⟩ := hcut
                                  clear hB8 w8
                                  obtain ⟨w9, hw9⟩ : ∃ y, wc = y := ⟨_, rfl⟩
                                  rw [hw9] at hB9 ⊢
                                  clear hw9 wc
                                  obtain ⟨e0, e1, e2, e3⟩ := HE.out w9 hB9
                                  cases oa with
                                  | none =>
                                    obtain rfl : k0 = false := HK0.out.symm
                                    go_wp2
                                    exact bodyPost_ret (v := .bool true) (by simp [results, Try.results4, go_sem]) rfl ⟨rfl, hW _ hB9⟩
                                  | some a =>
                                    obtain rfl : a = A0 := HA0.out
                                    obtain rfl : k0 = true := HK0.out.symm
                                    by_cases h9 : t.kind = 9
                                    · obtain ⟨k, it, hk, hit, hio⟩ := item_known HOA.out h9
                                      rw [hk]
                                      simp only [idxOf]
                                      obtain ⟨b, o, cs, rfl, hl, hcs, hIt⟩ := hI k it hit
                                      obtain ⟨pa, pc, va, vc, _, q0, q1, q3, q4, _, _, hP, hV⟩ := hIt.heads
                                      have hkn : k < nn := by have := (List.getElem?_eq_some_iff.1 hit).1; have := HNN.out; omega
                                      have hps3 := (hF.each k it hit).ps
                                      by_cases h2 : it.kind = 2
                                      · obtain ⟨all1, all2, all3, ha8⟩ := struct_all HOA.out h9 hio h2
                                        have hi2 : itemOf its t = some it := hio
                                        obtain ⟨n, hnn⟩ : ∃ n, it.ps.length = n := ⟨_, rfl⟩
                                        rw [hnn] at q3 hps3
                                        have HN := Lib.hid hnn
                                        have X0 := Lib.hid ((hcs 0 (by omega)).trans q0)
                                        have X3 := Lib.hid ((hcs 3 (by omega)).trans q3)
                                        rw [h2] at X0
                                        have x0 := keep_cell (hW _ hB9) X0.out
                                        rw [Nat.add_zero] at x0
                                        clear hcs q0 q1 q3 q4 hIt hnn
                                        obtain ⟨j0, hj0, hj1⟩ := info_size info26s
                                        have hA2 := Lib.hid all2
                                        have hA3 := Lib.hid all3
                                        clear all2 all3 hcopy hwords hindex
                                        go_wp2
                                        clear h9
                                        go_loopw [16, 17, 18] (fun sv cv iv wr => ∃ j : Nat, j ≤ n ∧ iv = .int .i64 j ∧ sv = .int .i64 (sumP its (it.ps.take j) : Nat) ∧ cv = .bool (((it.ps.take j).map Prod.snd).all (copyS its)) ∧ Below w1.heap.size w1 wr) (fun _ _ i _ => n - (intOf i).toNat)
                                        case atStart => exact ⟨0, Nat.zero_le _, rfl, by simp [sumP], by simp, hB9⟩
                                        case round =>
                                          as_aux_lemma =>
                                            obtain ⟨j, hj, rfl, rfl, rfl, hB⟩ := hrel
                                            have hBW := hW _ hB
                                            have hSle := sumP_le its it.ps j
                                            rw [← hA2.out] at hSle
                                            obtain ⟨co, hco⟩ : ∃ co, ((it.ps.take j).map Prod.snd).all (copyS its) = co := ⟨_, rfl⟩
                                            obtain ⟨S, hSS⟩ : ∃ S, sumP its (it.ps.take j) = S := ⟨_, rfl⟩
                                            have HCO := Lib.hid hco
                                            have HSS := Lib.hid hSS
                                            rw [hSS] at hSle ⊢
                                            rw [hco]
                                            clear hco hSS x0 e0 e1 e2 e3
                                            have x0 := keep_cell hBW X0.out
                                            have x3 := keep_cell hBW X3.out
                                            rw [Nat.add_zero] at x0
                                            obtain ⟨e0, e1, e2, e3⟩ := HE.out wr hB
                                            by_cases hlt : j < n
                                            · obtain ⟨pr, hpr⟩ : ∃ pr, it.ps[j]? = some pr := ⟨_, List.getElem?_eq_getElem (by have := HN.out; omega)⟩
                                              obtain ⟨w, hw⟩ := all1 pr (List.mem_of_getElem? hpr)
                                              have hw8 := words_le hw
                                              have hsn := sumP_snoc its it.ps j pr w hpr hw
                                              have hcn := copies_snoc its it.ps j pr hpr
                                              rw [HSS.out] at hsn
                                              rw [HCO.out] at hcn
                                              have hfound := field_found it.ps 0 0 j pr all1 hpr rfl
                                              obtain ⟨fk, ff, fb, hf1, hf2, hf3⟩ := hfound
                                              have hfs : fieldS its t pr.1 = some (fk, ff, fb) := by unfold fieldS; rw [hi2]; simp only; rw [if_pos h2]; exact hf1
                                              rw [Nat.zero_add, Nat.zero_add, HSS.out] at hf3
                                              rw [Nat.zero_add] at hf2
                                              obtain ⟨b2, o2, mu, x8, c0, c1, c2, c3, rfl, y0, y1, y2, y3, y4, y5, y6, hT0⟩ := hP j pr hpr
                                              obtain ⟨fa, fc, rfl, rfl, rfl, rfl, _, _⟩ := hT0.inv
                                              have z0 := keep_cell hBW y0
                                              have z1 := keep_cell hBW y1
                                              have z2 := keep_cell hBW y2
                                              have z3 := keep_cell hBW y3
                                              have z4 := keep_cell hBW y4
                                              have z5 := keep_cell hBW y5
                                              have z6 := keep_cell hBW y6
                                              have HF3 := Lib.hid hf3
                                              have HSN := Lib.hid hsn
                                              have HCN := Lib.hid hcn
                                              clear y0 y1 y2 y3 y4 y5 y6 hf1 hf3 hsn hcn
                                              go_upto_region 23 with fail
                                              have hel := heap_alloc_new wr (.cells #[.string pr.1, .bool mu, .int .i64 pr.2.kind, .string pr.2.name, .int .i64 pr.2.n, .slice fa pr.2.el.length fc, .int .i64 x8] 28)
                                              have hb6 : Below wr.heap.size wr (wr.alloc (.cells #[.string pr.1, .bool mu, .int .i64 pr.2.kind, .string pr.2.name, .int .i64 pr.2.n, .slice fa pr.2.el.length fc, .int .i64 x8] 28)) := (Below.refl _ _).alloc (Nat.le_refl _) _
                                              obtain ⟨eb, heb⟩ : ∃ y, wr.heap.size = y := ⟨_, rfl⟩
                                              obtain ⟨w10, hw10⟩ : ∃ y, wr.alloc (.cells #[.string pr.1, .bool mu, .int .i64 pr.2.kind, .string pr.2.name, .int .i64 pr.2.n, .slice fa pr.2.el.length fc, .int .i64 x8] 28) = y := ⟨_, rfl⟩
                                              rw [hw10] at hel hb6 ⊢
                                              rw [heb] at hel ⊢
                                              have hB10 := hB.trans (hb6.mono hB.size)
                                              have hK : ∀ X, Below w10.heap.size w10 X → X.cell? ⟨eb, 0, none⟩ = some (.string pr.1) ∧ X.cell? ⟨eb, 2, none⟩ = some (.int .i64 pr.2.kind) ∧ X.cell? ⟨eb, 3, none⟩ = some (.string pr.2.name) ∧ X.cell? ⟨eb, 4, none⟩ = some (.int .i64 pr.2.n) ∧ X.cell? ⟨eb, 5, none⟩ = some (.slice fa pr.2.el.length fc) := fun X hX => by
                                                have h := (hX.block eb (Array.getElem?_eq_some_iff.1 hel).1).trans hel
                                                exact ⟨by rw [cell_of_row _ _ _ _ 28 (0, 0) h]; rfl, by rw [cell_of_row _ _ _ _ 28 (0, 0) h]; rfl, by rw [cell_of_row _ _ _ _ 28 (0, 0) h]; rfl, by rw [cell_of_row _ _ _ _ 28 (0, 0) h]; rfl, by rw [cell_of_row _ _ _ _ 28 (0, 0) h]; rfl⟩
                                              have HK := Lib.hid hK
                                              clear hK hw10 heb hel hb6 z0 z1 z2 z3 z4 z5 z6 e0 e1 e2 e3 x0 x3
                                              obtain ⟨k0, k2, k3, k4, k5⟩ := HK.out w10 (Below.refl _ _)
                                              have hcw := words_calls W w10 (hW _ hB10) _ its lc hn' hI pr.2 fa fc hT0
                                              rw [hw, HNN.out] at hcw
                                              simp only [wordsV] at hcw
                                              go_upto_region 26 with (go_at_call 7; refine hcw.mono ?_; rintro e w11 ⟨rfl, hb11⟩)
                                              have hB11 := hB10.trans (hb11.mono hB10.size)
                                              clear hcw k0 k2 k3 k4 k5
                                              obtain ⟨k0, k2, k3, k4, k5⟩ := HK.out w11 hb11
                                              obtain ⟨e0, e1, e2, e3⟩ := HE.out w11 hB11
                                              have hcf := field_calls W w11 (hW _ hB11) _ its lc hn' hI hF t ea t.el.length ec pr.1
                                              rw [HNN.out] at hcf
                                              go_upto_region 27 with (first
                                                | (go_at_call 12; refine hcf.mono ?_; rintro e w12 ⟨hFT, hb12⟩; obtain ⟨ga, gc, rfl, hTf⟩ := hFT.yes _ _ _ hfs)
                                                | (refine wpList_store_row rfl 26 (.tmp 23) (.tmp 163) rfl 4 j0 hj0 hj1 (w12.heap.size) 0 (cells4of ff ga gc).toArray rfl rfl rfl (fun v hv => cells4_one ff ga gc v (by simpa using hv)) (zero_there4 w12).1 (zero_there4 w12).2 ?_; intro w13 hL))
                                              have hB12 := hB11.trans (hb12.mono hB11.size)
                                              have hb1012 := hb11.trans (hb12.mono hb11.size)
                                              have hB13 : Below w1.heap.size w1 w13 := below_laid (hB12.alloc hB12.size _) hL hB12.size (by have := hB12.size; simp; omega)
                                              have hK13 : Below w10.heap.size w10 w13 := below_laid (hb1012.alloc hb1012.size _) hL hb1012.size (by have := hb1012.size; simp; omega)
                                              obtain ⟨tb, htb⟩ : ∃ tb, w12.heap.size = tb := ⟨_, rfl⟩
                                              have q0 : w13.cell? ⟨w12.heap.size, 0, none⟩ = some (.int .i64 ff.kind) := hL.cells 0 (by simp)
                                              have q1 : w13.cell? ⟨w12.heap.size, 1, none⟩ = some (.string ff.name) := hL.cells 1 (by simp)
                                              have q2 : w13.cell? ⟨w12.heap.size, 2, none⟩ = some (.int .i64 ff.n) := hL.cells 2 (by simp)
                                              have q3 : w13.cell? ⟨w12.heap.size, 3, none⟩ = some (.slice ga ff.el.length gc) := hL.cells 3 (by simp)
                                              rw [htb] at q0 q1 q2 q3 ⊢
                                              clear hL htb hb12 hB12 hb1012 hcf hFT k0 k2 k3 k4 k5 e0 e1 e2 e3
                                              obtain ⟨k0, k2, k3, k4, k5⟩ := HK.out w13 hK13
                                              go_cut [189] (fun v wx => v = .bool false ∧ Below w10.heap.size w10 wx)
                                              case first =>
                                                as_aux_lemma =>
                                                  by_cases hkj : fk = j
                                                  · obtain ⟨hff, hfb⟩ := HF3.out hkj
                                                    subst hff hfb hkj
                                                    have hsame := same_calls W (SizeOf.sizeOf pr.2) pr.2 pr.2 w13 ga gc fa fc (Nat.le_refl _) (hW _ hB13) hTf hT0
                                                    rw [same_refl _ _ (Nat.le_refl _)] at hsame
                                                    go_wp2_with (go_at_call 13; refine hsame.mono ?_; rintro e w14 ⟨rfl, hb14⟩)
                                                    go_meet
                                                    exact ⟨rfl, hK13.trans (hb14.mono hK13.size)⟩
                                                  · have hkj1 : ¬ ((j : Int) < (fk : Int)) := by omega
                                                    have hkj2 : ¬ ((fk : Int) = (j : Int)) := by omega
                                                    go_wp2
                                                    go_meet
                                                    exact ⟨rfl, hK13⟩
                                              case rest =>
                                                as_aux_lemma =>
                                                  obtain ⟨rfl, hK14⟩ := hcut
                                                  clear q0 q1 q2 q3 k0 k2 k3 k4 k5 hK13 hB13
                                                  obtain ⟨w14, hw14⟩ : ∃ y, wc = y := ⟨_, rfl⟩
                                                  rw [hw14] at hK14 ⊢
                                                  clear hw14 wc
                                                  have hB14 := hB10.trans (hK14.mono hB10.size)
                                                  obtain ⟨k0, k2, k3, k4, k5⟩ := HK.out w14 hK14
                                                  have hcc := copy_calls W w14 (hW _ hB14) _ its lc hn' hI pr.2 fa fc hT0
                                                  rw [HNN.out] at hcc
                                                  cases co with
                                                  | false =>
                                                    as_aux_lemma =>
                                                      go_wp2
                                                      go_roundw
                                                      case rel => exact ⟨j + 1, by omega, by go_num, by rw [HSN.out]; go_num, by rw [HCN.out]; rfl, hB14⟩
                                                      case measure => simp [intOf]; omega
                                                  | true =>
                                                    as_aux_lemma =>
                                                      go_wp2_with (go_at_call 10; refine hcc.mono ?_; rintro e w15 ⟨rfl, hb15⟩)
                                                      have hB15 := hB14.trans (hb15.mono hB14.size)
                                                      go_roundw
                                                      case rel => exact ⟨j + 1, by omega, by go_num, by rw [HSN.out]; go_num, by rw [HCN.out]; rfl, hB15⟩
                                                      case measure => simp [intOf]; omega
                                            · obtain rfl : j = n := by omega
                                              have htk : it.ps.take j = it.ps := List.take_of_length_le (by have := HN.out; omega)
                                              have hSa := HSS.out
                                              have hCa := HCO.out
                                              rw [htk, ← hA2.out] at hSa
                                              rw [htk, ← hA3.out] at hCa
                                              subst hSa
                                              have hct := copy_calls W wr hBW _ its lc hn' hI t ea ec hT
                                              rw [HNN.out, hCa] at hct
                                              go_wp2_with (go_at_call 10; refine hct.mono ?_; rintro e w15 ⟨rfl, hb15⟩)
                                              exact bodyPost_ret (v := .bool true) (by simp [results, Try.results4, go_sem]) rfl ⟨rfl, hBW.trans (hb15.mono hBW.size)⟩
                                      · have x0 := keep_cell (hW _ hB9) ((hcs 0 (by omega)).trans q0)
                                        rw [Nat.add_zero] at x0
                                        go_wp2
                                        exact bodyPost_ret (v := .bool true) (by simp [results, Try.results4, go_sem]) rfl ⟨rfl, hW _ hB9⟩
                                    · go_wp2
                                      exact bodyPost_ret (v := .bool true) (by simp [results, Try.results4, go_sem]) rfl ⟨rfl, hW _ hB9⟩
end Go.Proofs.Ytioediibbgklcaa.W
