/- ferruleref05.words, Words. -/
import Derived.Test.YtioediibbgklcaaTyWp
namespace Go.Proofs.Ytioediibbgklcaa.W
open Go Go.RowKit Go.Proofs
set_option linter.unusedVariables false
set_option linter.unusedSimpArgs false
set_option maxHeartbeats 8000000 in
set_option maxRecDepth 100000 in
theorem wordsr_calls (W0 : World) (la : Option Addr) (its : List It) (lc : Nat) (hn : its.length ≤ 9223372036854775807) (hI : ItsAt W0 la its) (hF : FewOf its) : ∀ (N : Nat) (t : Ty) (a : Am) (W : World) (ea : Option Addr) (ec : Nat), measureS its t = some a → a.parts ≤ N → Below W0.heap.size W0 W → TyAt W0 (cells4of t ea ec) t →
    Calls Try.prog 29 #[.slice la its.length lc, .agg (cells4of t ea ec).toArray] W fun e w' => e = .returned (.int .i64 (a.words : Nat)) ∧ Below W.heap.size W w' := by
  intro N
  induction N with
  | zero => intro t a W ea ec hm hp; have := (measure_bound hm).1; omega
  | succ N ih =>
  intro t a W ea ec hm hpN hb hT
  have hbd := measure_bound hm
  have hidx := fun X hX => index_calls W0 X hX la its lc hn hI t.name
  obtain ⟨nn, hnl⟩ : ∃ nn, its.length = nn := ⟨_, rfl⟩
  rw [hnl] at hidx ih ⊢
  have HNN := Lib.hid hnl
  clear hnl
  obtain ⟨_, _, _, _, _, e4, hl1, hel⟩ := hT.inv
  injection e4 with e4 _ e5
  subst e4 e5
  go_enter Try.func29, Try.ntmps29
  go_upto_region 1 with fail
  have hb1 : Below W.heap.size W (W.alloc (.cells (cells4of t ea ec).toArray 26)) := (Below.refl _ _).alloc (Nat.le_refl _) _
  have hT1 := heap_alloc_new W (.cells (cells4of t ea ec).toArray 26)
  show Code.wp Try.prog _ _ _ (W.alloc (.cells (cells4of t ea ec).toArray 26))
  obtain ⟨w1, hw1⟩ : ∃ y, W.alloc (.cells (cells4of t ea ec).toArray 26) = y := ⟨_, rfl⟩
  rw [hw1] at hb1 hT1 ⊢
  have e0 : w1.cell? ⟨W.heap.size, 0, none⟩ = some (.int .i64 t.kind) := by rw [cell_of_row _ _ _ _ 26 (0, 0) hT1]; rfl
  have e1 : w1.cell? ⟨W.heap.size, 1, none⟩ = some (.string t.name) := by rw [cell_of_row _ _ _ _ 26 (0, 0) hT1]; rfl
  have e2 : w1.cell? ⟨W.heap.size, 2, none⟩ = some (.int .i64 t.n) := by rw [cell_of_row _ _ _ _ 26 (0, 0) hT1]; rfl
  have e3 : w1.cell? ⟨W.heap.size, 3, none⟩ = some (.slice ea t.el.length ec) := by rw [cell_of_row _ _ _ _ 26 (0, 0) hT1]; rfl
  obtain ⟨el, hele⟩ : ∃ el, t.el.length = el := ⟨_, rfl⟩
  rw [hele] at e3
  clear hw1 hT1
  by_cases h1 : t.kind = 1
  · have hw := Lib.hid (measure_unit hm h1)
    go_wp2
    exact bodyPost_ret (v := .int .i64 0) (by simp [results, Try.results29, go_sem]) rfl ⟨by first | rfl | (rw [hw.out]; rfl), hb1⟩
  · by_cases h10 : t.kind = 10
    · obtain ⟨u, r, hte, hin, hout⟩ := measure_array hm h10
      by_cases hn1 : t.n < 1
      · have hw := Lib.hid (hout hn1)
        go_wp2
        exact bodyPost_ret (v := .int .i64 0) (by simp [results, Try.results29, go_sem]) rfl ⟨by first | rfl | (rw [hw.out]; rfl), hb1⟩
      · obtain ⟨b, hmb, hpb, hmul⟩ := hin (by omega)
        obtain ⟨bb, o, c0, c1, c2, c3, rfl, x0, x1, x2, x3, hu⟩ := hel 0 u (by rw [hte]; rfl)
        obtain ⟨ua, uc, rfl, rfl, rfl, rfl, hul, _⟩ := hu.inv
        have hel0 : ¬ (el = 0) := by rw [hte] at hele; simp at hele; omega
        have hel0' : 0 < el := by omega
        have hbd1 := below_dr hb1
        have hB0 := hb.trans (hb1.mono hb.size)
        have y0 := keep_cell hB0 x0
        have y1 := keep_cell hB0 x1
        have y2 := keep_cell hB0 x2
        have y3 := keep_cell hB0 x3
        rw [Nat.zero_mul, Nat.add_zero] at y0 y1 y2 y3
        have hrec := ih u b w1.drew ua uc hmb (by omega) (hb.trans (hbd1.mono hb.size)) hu
        have hrec : Calls Try.prog 29 #[.slice la nn lc, .agg #[.int .i64 u.kind, .string u.name, .int .i64 u.n, .slice ua u.el.length uc]] w1.drew _ := hrec
        have hwm : wrap64 (t.n * (b.words : Int)) = (a.words : Int) := by rw [hmul]; simp only [wrap64]; omega
        have hwi : IntKind.i64.wrap (a.words : Int) = (a.words : Int) := by rw [← wr64]; simp only [wrap64]; omega
        clear hel hte hin hout x0 x1 x2 x3 hT hm hmb
        have d2 : w1.drew.cell? ⟨W.heap.size, 2, none⟩ = _ := e2
        have d3 : w1.drew.cell? ⟨W.heap.size, 3, none⟩ = _ := e3
        have z0 : w1.drew.cell? ⟨bb, o, none⟩ = _ := y0
        have z1 : w1.drew.cell? ⟨bb, o + 1, none⟩ = _ := y1
        have z2 : w1.drew.cell? ⟨bb, o + 2, none⟩ = _ := y2
        have z3 : w1.drew.cell? ⟨bb, o + 3, none⟩ = _ := y3
        go_upto_region 6 with fail
        go_region_law (go_simp; go_at_call 29; refine hrec.mono ?_; rintro e w3 ⟨rfl, hb3⟩; have q2 := (hb3.cell (p := ⟨W.heap.size, 2, none⟩) (cell_lt d2)).trans d2)
        all_goals
          go_wp2
          exact bodyPost_ret (v := .int .i64 (a.words : Nat)) (by simp [results, Try.results29, go_sem, hwm, hwi]) rfl ⟨rfl, hbd1.trans (hb3.mono hbd1.size)⟩
    · by_cases h9 : t.kind = 9
      · have hit0 : ∃ k it, its.findIdx? (named? t.name) = some k ∧ its[k]? = some it ∧ itemOf its t = some it := by
          have hw : ∃ n, (measureS its t).map Am.words = some n := ⟨_, by rw [hm]; rfl⟩
          have hio : itemOf its t ≠ none := by
            intro hno
            unfold measureS at hm
            have : addS its 513 512 t = none := by
              simp only [addS]
              rw [if_neg (by omega), if_neg (by omega), if_pos h9, hno]
            rw [this] at hm
            simp at hm
          rw [itemOf_eq, if_pos h9] at hio ⊢
          rcases find_idx (p := named? t.name) its with ⟨q1, q2⟩ | ⟨k, it, q1, q2, q3⟩
          · exact absurd q2 hio
          · exact ⟨k, it, q1, q2, q3⟩
        obtain ⟨k, it, hk, hit, hio⟩ := hit0
        have hkd : it.kind = 2 ∨ it.kind = 3 := by
          rw [itemOf_eq, if_pos h9] at hio
          have hn := List.find?_some hio
          unfold named? at hn
          simp only [Bool.and_eq_true, Bool.or_eq_true, beq_iff_eq] at hn
          exact hn.1
        obtain ⟨b, o, cs, rfl, hl, hcs, hIt⟩ := hI k it hit
        obtain ⟨pa, pc, va, vc, _, p0, p1, p3, p4, _, _, hP, hV⟩ := hIt.heads
        have hkn : k < nn := by have := (List.getElem?_eq_some_iff.1 hit).1; have := HNN.out; omega
        have hsc := hF.each k it hit
        have hone := hIt.one
        have hrow : ∀ X, Below W0.heap.size W0 X → Sem.run Try.prog (loadCellsFrom ⟨b, o + k * 20, none⟩ 0 20 #[]) X = .ok cs.toArray X := fun X hX => run_row (W := X) b (o + k * 20) 20 cs hl (fun j hj => by
          have hv := hcs j hj
          rw [List.getElem?_eq_getElem (by omega)] at hv ⊢
          exact keep_cell hX hv)
        obtain ⟨A, hA⟩ : ∃ A, cs.toArray = A := ⟨_, rfl⟩
        have hAs : A.size = 20 := by rw [← hA]; simpa using hl
        have hA1 : ∀ v ∈ A.toList, v.oneCell' = true := by rw [← hA]; exact hone.2
        have hA0 : A[0]? = some (.int .i64 it.kind) := by rw [← hA]; simpa using p0
        have hA3 : A[3]? = some (.slice pa it.ps.length pc) := by rw [← hA]; simpa using p3
        have hA4 : A[4]? = some (.slice va it.vs.length vc) := by rw [← hA]; simpa using p4
        rw [hA] at hrow
        obtain ⟨i0, hi0, hi1⟩ := info_size info35
        have hc := hidx w1 (hb.trans (hb1.mono hb.size))
        rw [hk] at hc
        simp only [idxOf] at hc
        have HROW := Lib.hid hrow
        clear hA hone p0 p1 p3 p4 hIt hcs hl hk hrow hel hT
        go_upto_region 10 with (first
          | (go_at_call 11; refine hc.mono ?_; rintro e w2 ⟨rfl, hb2⟩; have hB02 := hb.trans ((hb1.trans (hb2.mono hb1.size)).mono hb.size))
          | (refine wpList_load_row rfl 35 (.tmp 37) rfl 20 _ Try.underlying35 rfl i0 hi0 hi1 b (o + k * 20) A rfl (HROW.out w2 hB02) ?_)
          | (refine wpList_store_row rfl 35 (.tmp 5) (.tmp 38) rfl 20 i0 hi0 hi1 (w2.heap.size) 0 A rfl rfl hAs hA1 (zero_there _).1 (zero_there _).2 ?_; intro w4 hL))
        have hB2 := hb1.trans (hb2.mono hb1.size)
        have hB4 := below_laid (hB2.alloc hB2.size (.cells zero35 35)) hL hB2.size (by have := hB2.size; simp; omega)
        have f0 : w4.cell? ⟨w2.heap.size, 0, none⟩ = some (.int .i64 it.kind) := (hL.cells 0 (by omega)).trans hA0
        have f3 : w4.cell? ⟨w2.heap.size, 3, none⟩ = some (.slice pa it.ps.length pc) := (hL.cells 3 (by omega)).trans hA3
        have f4 : w4.cell? ⟨w2.heap.size, 4, none⟩ = some (.slice va it.vs.length vc) := (hL.cells 4 (by omega)).trans hA4
        obtain ⟨xb, hxb⟩ : ∃ xb, w2.heap.size = xb := ⟨_, rfl⟩
        rw [hxb] at f0 f3 f4 ⊢
        clear hL hxb hA0 hA3 hA4 hA1 hAs HROW hB2 hB02 hb2 hc hidx e0 e1 e2 e3 hb1
        by_cases h2 : it.kind = 2
        · obtain ⟨hch, hwd⟩ := measure_struct hm h9 hio h2
          have hps := hsc.ps
          obtain ⟨n, hnn⟩ : ∃ n, it.ps.length = n := ⟨_, rfl⟩
          rw [hnn] at f3 hps
          rw [h2] at f0
          have HN := Lib.hid hnn
          have HC := Lib.hid hch
          have HW := Lib.hid hwd
          clear hnn hch hwd hm hio hit h9 hkd
          go_wp2
          go_loopw [6, 7] (fun sv iv wr => ∃ j : Nat, j ≤ n ∧ iv = .int .i64 j ∧ sv = .int .i64 (sumW its ((it.ps.map Prod.snd).take j) : Nat) ∧ Below w4.heap.size w4 wr) (fun _ i _ => n - (intOf i).toNat)
          case atStart => exact ⟨0, Nat.zero_le _, rfl, by simp [sumW], Below.refl _ _⟩
          case round =>
            obtain ⟨j, hj, rfl, rfl, hB⟩ := hrel
            have hBr := hB4.trans (hB.mono hB4.size)
            have hB0 := hb.trans (hBr.mono hb.size)
            have g3 := (hB.cell (p := ⟨xb, 3, none⟩) (cell_lt f3)).trans f3
            have hsle := sumW_take its (it.ps.map Prod.snd) j
            rw [← HW.out] at hsle
            obtain ⟨S, hSS⟩ : ∃ S, sumW its ((it.ps.map Prod.snd).take j) = S := ⟨_, rfl⟩
            rw [hSS] at hsle ⊢
            have HSS := Lib.hid hSS
            clear hSS
            by_cases hlt : j < n
            · obtain ⟨pr, hpr⟩ : ∃ pr, it.ps[j]? = some pr := ⟨_, List.getElem?_eq_getElem (by have := HN.out; omega)⟩
              obtain ⟨c, hcm, hcp⟩ := HC.out pr (List.mem_of_getElem? hpr)
              have hcb := measure_bound hcm
              have hsn := sumW_snoc (its := its) (it.ps.map Prod.snd) j pr.2 c (by rw [List.getElem?_map, hpr]; rfl) hcm
              rw [HSS.out] at hsn
              have HSN := Lib.hid hsn
              obtain ⟨b2, o2, mu, x8, c0, c1, c2, c3, rfl, _, _, y2, y3, y4, y5, _, hT0⟩ := hP j pr hpr
              obtain ⟨fa, fc, rfl, rfl, rfl, rfl, _, _⟩ := hT0.inv
              have z2 := keep_cell hB0 y2
              have z3 := keep_cell hB0 y3
              have z4 := keep_cell hB0 y4
              have z5 := keep_cell hB0 y5
              have hrec := ih pr.2 c wr fa fc hcm (by omega) hB0 hT0
              have hrec : Calls Try.prog 29 #[.slice (some ⟨b, o, none⟩) nn lc, .agg #[.int .i64 pr.2.kind, .string pr.2.name, .int .i64 pr.2.n, .slice fa pr.2.el.length fc]] wr _ := hrec
              clear hsn hcm y2 y3 y4 y5 hpr
              go_wp2_with (go_at_call 29; refine hrec.mono ?_; rintro e w5 ⟨rfl, hb5⟩)
              go_roundw
              case rel => exact ⟨j + 1, by omega, by go_num, (by have h := HSN.out; rw [h]; go_num), hB.trans (hb5.mono hB.size)⟩
              case measure => simp [intOf]; omega
            · obtain rfl : j = n := by omega
              have hS' := HSS.out
              rw [List.take_of_length_le (by rw [List.length_map]; have := HN.out; omega), ← HW.out] at hS'
              subst hS'
              go_wp2
              exact bodyPost_ret (v := .int .i64 (a.words : Nat)) (by simp [results, Try.results29, go_sem]) rfl ⟨rfl, hBr⟩
        · obtain ⟨hch, hwd⟩ := measure_enum hm h9 hio h2
          have h3 : it.kind = 3 := by rcases hkd with h | h; exact absurd h h2; exact h
          have hvs := hsc.vs
          obtain ⟨n, hnn⟩ : ∃ n, it.vs.length = n := ⟨_, rfl⟩
          rw [hnn] at f4 hvs
          rw [h3] at f0
          have HN := Lib.hid hnn
          have HC := Lib.hid hch
          have HW := Lib.hid hwd
          have HS3 := Lib.hid hsc.each
          clear hnn hch hwd hm hio hit h9 hkd h2 h3 hsc
          go_wp2
          go_loopw [6, 8] (fun sv iv wr => ∃ j : Nat, j ≤ n ∧ iv = .int .i64 j ∧ sv = .int .i64 (mostW its ((it.vs.map Prod.snd).take j) 0 : Nat) ∧ Below w4.heap.size w4 wr) (fun _ i _ => n - (intOf i).toNat)
          case atStart => exact ⟨0, Nat.zero_le _, rfl, by simp [mostW], Below.refl _ _⟩
          case round =>
            obtain ⟨j, hj, rfl, rfl, hB⟩ := hrel
            have hBr := hB4.trans (hB.mono hB4.size)
            have hB0 := hb.trans (hBr.mono hb.size)
            have g4 := (hB.cell (p := ⟨xb, 4, none⟩) (cell_lt f4)).trans f4
            have hsle := mostW_take its (it.vs.map Prod.snd) j
            have hwo := HW.out
            obtain ⟨T, hT⟩ : ∃ T, mostW its (it.vs.map Prod.snd) 0 = T := ⟨_, rfl⟩
            rw [hT] at hsle hwo
            have HT := Lib.hid hT
            obtain ⟨S, hSS⟩ : ∃ S, mostW its ((it.vs.map Prod.snd).take j) 0 = S := ⟨_, rfl⟩
            rw [hSS] at hsle ⊢
            have HSS := Lib.hid hSS
            clear hSS hT
            by_cases hlt : j < n
            · obtain ⟨v, hv⟩ : ∃ v, it.vs[j]? = some v := ⟨_, List.getElem?_eq_getElem (by have := HN.out; omega)⟩
              have hst := mostW_step its (it.vs.map Prod.snd) j v.2 (by rw [List.getElem?_map, hv]; rfl)
              have hst2 := mostW_take its (it.vs.map Prod.snd) (j + 1)
              rw [HT.out] at hst2
              rw [HSS.out] at hst
              obtain ⟨V, hVV⟩ : ∃ V, sumW its v.2 = V := ⟨_, rfl⟩
              rw [hVV] at hst
              have hVT : V ≤ T := by rw [hst] at hst2; omega
              have HST := Lib.hid hst
              have HVV := Lib.hid hVV
              have HVC := Lib.hid (HC.out v (List.mem_of_getElem? hv))
              have hv3 := HS3.out j v hv
              obtain ⟨b2, o2, ta, tc, x8, rfl, _, y1, _, hyl, hyt⟩ := hV j v hv
              obtain ⟨m, hmm⟩ : ∃ m, v.2.length = m := ⟨_, rfl⟩
              rw [hmm] at y1 hv3
              have HMM := Lib.hid hmm
              clear hst hst2 hVV hv hyl hmm
              go_wp2
              go_loopw [9, 10] (fun sv iv wx => ∃ i : Nat, i ≤ m ∧ iv = .int .i64 i ∧ sv = .int .i64 (sumW its (v.2.take i) : Nat) ∧ Below w4.heap.size w4 wx) (fun _ i _ => m - (intOf i).toNat)
              case atStart => exact ⟨0, Nat.zero_le _, rfl, by simp [sumW], hB⟩
              case round =>
                obtain ⟨i, hi, rfl, rfl, hBx⟩ := hrel
                have hBrx := hB4.trans (hBx.mono hB4.size)
                have hB0x := hb.trans (hBrx.mono hb.size)
                have k4 := (hBx.cell (p := ⟨xb, 4, none⟩) (cell_lt f4)).trans f4
                have z1 := keep_cell hB0x y1
                have hsle2 := sumW_take its v.2 i
                rw [HVV.out] at hsle2
                obtain ⟨R, hRR⟩ : ∃ R, sumW its (v.2.take i) = R := ⟨_, rfl⟩
                rw [hRR] at hsle2 ⊢
                have HRR := Lib.hid hRR
                clear hRR
                by_cases hlt2 : i < m
                · obtain ⟨u, hu⟩ : ∃ u, v.2[i]? = some u := ⟨_, List.getElem?_eq_getElem (by have := HMM.out; omega)⟩
                  obtain ⟨c, hcm, hcp⟩ := HVC.out u (List.mem_of_getElem? hu)
                  have hcb := measure_bound hcm
                  have hsn := sumW_snoc (its := its) v.2 i u c hu hcm
                  rw [HRR.out] at hsn
                  have HSN := Lib.hid hsn
                  obtain ⟨b3, o3, c0, c1, c2, c3, rfl, y2, y3, y4, y5, hT0⟩ := hyt i u hu
                  obtain ⟨fa, fc, rfl, rfl, rfl, rfl, _, _⟩ := hT0.inv
                  have x2 := keep_cell hB0x y2
                  have x3 := keep_cell hB0x y3
                  have x4 := keep_cell hB0x y4
                  have x5 := keep_cell hB0x y5
                  have hrec := ih u c _ fa fc hcm (by omega) hB0x hT0
                  have hrec : Calls Try.prog 29 #[.slice (some ⟨b, o, none⟩) nn lc, .agg #[.int .i64 u.kind, .string u.name, .int .i64 u.n, .slice fa u.el.length fc]] _ _ := hrec
                  clear hsn hcm y2 y3 y4 y5 hu
                  go_wp2_with (go_at_call 29; refine hrec.mono ?_; rintro e w5 ⟨rfl, hb5⟩)
                  go_roundw
                  case rel => exact ⟨i + 1, by omega, by go_num, (by have h := HSN.out; rw [h]; go_num), hBx.trans (hb5.mono hBx.size)⟩
                  case measure => simp [intOf]; omega
                · obtain rfl : i = m := by omega
                  have hR' := HRR.out
                  rw [List.take_of_length_le (by have := HMM.out; omega), HVV.out] at hR'
                  subst hR'
                  by_cases hgt : (S : Int) < (V : Int)
                  · go_wp2
                    go_roundw
                    case rel => exact ⟨j + 1, by omega, by go_num, (by have h := HST.out; rw [h, Nat.max_eq_right (by omega)]), hBx⟩
                    case measure => simp [intOf]; omega
                  · go_wp2
                    go_roundw
                    case rel => exact ⟨j + 1, by omega, by go_num, (by have h := HST.out; rw [h, Nat.max_eq_left (by omega)]), hBx⟩
                    case measure => simp [intOf]; omega
            · obtain rfl : j = n := by omega
              have hS' := HSS.out
              rw [List.take_of_length_le (by rw [List.length_map]; have := HN.out; omega), HT.out] at hS'
              subst hS'
              have HWO := Lib.hid hwo
              go_wp2
              exact bodyPost_ret (v := .int .i64 ((T : Int) + 1)) (by simp [results, Try.results29, go_sem]) rfl ⟨by rw [HWO.out]; rfl, hBr⟩
      · have hw := Lib.hid (measure_plain hm h1 h9 h10)
        go_wp2
        exact bodyPost_ret (v := .int .i64 1) (by simp [results, Try.results29, go_sem]) rfl ⟨by first | rfl | (rw [hw.out]; rfl), hb1⟩
set_option maxHeartbeats 4000000 in
set_option maxRecDepth 100000 in
theorem refwords_calls (W0 W : World) (hb : Below W0.heap.size W0 W) (la : Option Addr) (its : List It) (lc : Nat) (hn : its.length ≤ 9223372036854775807) (hI : ItsAt W0 la its) (hF : FewOf its) (t : Ty) (ea : Option Addr) (ec : Nat) (hT : TyAt W0 (cells4of t ea ec) t) :
    Calls Try.prog 15 #[.slice la its.length lc, .agg (cells4of t ea ec).toArray] W fun e w' => e = .returned (wordsV (wordsS its t)) ∧ Below W.heap.size W w' := by
  have hknown := fun X hX => known_calls W0 X hX la its lc hn hI hF t ea ec hT
  have hwr := fun a (hm : measureS its t = some a) X hX => wordsr_calls W0 la its lc hn hI hF a.parts t a X ea ec hm (Nat.le_refl _) hX hT
  obtain ⟨nn, hnl⟩ : ∃ nn, its.length = nn := ⟨_, rfl⟩
  rw [hnl] at hknown hwr ⊢
  go_enter Try.func15, Try.ntmps15
  go_upto_region 1 with fail
  have hb1 : Below W.heap.size W (W.alloc (.cells (cells4of t ea ec).toArray 26)) := (Below.refl _ _).alloc (Nat.le_refl _) _
  have hT1 := heap_alloc_new W (.cells (cells4of t ea ec).toArray 26)
  show Code.wp Try.prog _ _ _ (W.alloc (.cells (cells4of t ea ec).toArray 26))
  obtain ⟨w1, hw1⟩ : ∃ y, W.alloc (.cells (cells4of t ea ec).toArray 26) = y := ⟨_, rfl⟩
  rw [hw1] at hb1 hT1 ⊢
  have hE : ∀ X, Below w1.heap.size w1 X → X.cell? ⟨W.heap.size, 0, none⟩ = some (.int .i64 t.kind) ∧ X.cell? ⟨W.heap.size, 1, none⟩ = some (.string t.name) ∧ X.cell? ⟨W.heap.size, 2, none⟩ = some (.int .i64 t.n) ∧ X.cell? ⟨W.heap.size, 3, none⟩ = some (.slice ea t.el.length ec) := fun X hX => by
    have h := (hX.block W.heap.size (Array.getElem?_eq_some_iff.1 hT1).1).trans hT1
    exact ⟨by rw [cell_of_row _ _ _ _ 26 (0, 0) h]; rfl, by rw [cell_of_row _ _ _ _ 26 (0, 0) h]; rfl, by rw [cell_of_row _ _ _ _ 26 (0, 0) h]; rfl, by rw [cell_of_row _ _ _ _ 26 (0, 0) h]; rfl⟩
  have HE := Lib.hid hE
  have hk : Calls Try.prog 23 #[.slice la nn lc, .agg #[.int .i64 t.kind, .string t.name, .int .i64 t.n, .slice ea t.el.length ec]] w1 _ := hknown w1 (hb.trans (hb1.mono hb.size))
  obtain ⟨e0, e1, e2, e3⟩ := hE w1 (Below.refl _ _)
  clear hw1 hT1 hknown hE
  cases hm : measureS its t with
  | none =>
    rw [hm] at hk
    have hw : wordsS its t = none := by unfold wordsS; rw [hm]
    have HW := Lib.hid hw
    clear hw
    go_wp2_with (go_at_call 23; refine hk.mono ?_; rintro e w2 ⟨rfl, hb2⟩; simp only [Option.isSome])
    exact bodyPost_ret (v := .tuple #[.int .i64 0, .bool false]) (by simp [results, Try.results15, go_sem]) rfl ⟨by rw [HW.out]; rfl, hb1.trans (hb2.mono hb1.size)⟩
  | some a =>
    rw [hm] at hk
    have hab := measure_bound hm
    have hwr2 := hwr a hm
    go_upto_if 10 with (go_at_call 23; refine hk.mono ?_; rintro e w2 ⟨rfl, hb2⟩; simp only [Option.isSome])
    clear e0 e1 e2 e3
    obtain ⟨e0, e1, e2, e3⟩ := HE.out w2 hb2
    have hB2 := hb1.trans (hb2.mono hb1.size)
    have hc : Calls Try.prog 29 #[.slice la nn lc, .agg #[.int .i64 t.kind, .string t.name, .int .i64 t.n, .slice ea t.el.length ec]] w2 _ := hwr2 w2 (hb.trans (hB2.mono hb.size))
    by_cases h8 : 128 < a.words
    · have hw : wordsS its t = none := by unfold wordsS; rw [hm]; simp only [if_pos h8]
      have HW := Lib.hid hw
      clear hw
      have h9 : (128 : Int) < (a.words : Int) := by omega
      go_wp2_with (go_at_call 29; refine hc.mono ?_; rintro e w3 ⟨rfl, hb3⟩)
      exact bodyPost_ret (v := .tuple #[.int .i64 0, .bool false]) (by simp [results, Try.results15, go_sem]) rfl ⟨by rw [HW.out]; rfl, hB2.trans (hb3.mono hB2.size)⟩
    · have hw : wordsS its t = some a.words := by unfold wordsS; rw [hm]; simp only [if_neg h8]
      have HW := Lib.hid hw
      clear hw
      have h9 : ¬ (128 : Int) < (a.words : Int) := by omega
      go_wp2_with (go_at_call 29; refine hc.mono ?_; rintro e w3 ⟨rfl, hb3⟩)
      exact bodyPost_ret (v := .tuple #[.int .i64 a.words, .bool true]) (by simp [results, Try.results15, go_sem]) rfl ⟨by rw [HW.out]; rfl, hB2.trans (hb3.mono hB2.size)⟩
end Go.Proofs.Ytioediibbgklcaa.W
