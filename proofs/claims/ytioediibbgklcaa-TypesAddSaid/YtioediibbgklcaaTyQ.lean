/- TypesEnums: the walk. -/
import Derived.Test.YtioediibbgklcaaTyS
namespace Go.Proofs.Ytioediibbgklcaa.W
open Go Go.RowKit Go.Proofs
set_option linter.unusedVariables false
set_option linter.unusedSimpArgs false
set_option maxHeartbeats 4000000 in
set_option maxRecDepth 100000 in
theorem enums_walk (W : World) (ka : Option Addr) (kn kc : Nat) (kf : Nat → Int) (hK : Nums W ka kn kf) (sa : Option Addr) (sn sc : Nat) (sf : Nat → Int) (hS : Nums W sa sn sf) :
    Calls Try.prog 5 #[.slice ka kn kc, .slice sa sn sc] W fun e w' => e = .returned (.bool true) ∧ Below W.heap.size W w' := by
  have hkn := hK.le
  have hsn := hS.le
  obtain ⟨t0, ht0, hz0, hz1, hz2⟩ := info_parts info26
  obtain ⟨y0, hy0, hy1, hy2, hy3⟩ := info_parts info48
  go_enter Try.func5, Try.ntmps5
  go_wp2
  go_loopw [9, 5, 6, 7, 8] (fun iv vv mv pv cv wr => ∃ E : List (Nat × Bool), E.length ≤ kn ∧ E.length ≤ 5 ∧ iv = .int .i64 E.length ∧ En W.heap.size wr vv E ∧ (∀ p ∈ E, p.1 ≤ 7) ∧ mv = .int .i64 (mostE E) ∧ (∃ x : Int, pv = .int .i64 x) ∧ cv = .bool (copE E) ∧ Below W.heap.size W wr) (fun i _ _ _ _ _ => 5 - (intOf i).toNat)
  case atStart => exact ⟨[], Nat.zero_le _, by simp, rfl, ⟨[], rfl, World.ownsRow_nil _ _ _ _, by simp⟩, by simp, rfl, ⟨_, rfl⟩, rfl, Below.refl _ _⟩
  case round =>
    obtain ⟨E, hE1, hE2, rfl, hEn, hE7, rfl, ⟨px, rfl⟩, rfl, hB⟩ := hrel
    obtain ⟨i, hi⟩ : ∃ i, E.length = i := ⟨_, rfl⟩
    have HI := Lib.hid hi
    rw [hi] at hE1 hE2 ⊢
    obtain ⟨mo, hmo⟩ : ∃ mo, mostE E = mo := ⟨_, rfl⟩
    have HMo := Lib.hid hmo
    obtain ⟨co, hco⟩ : ∃ co, copE E = co := ⟨_, rfl⟩
    have HCo := Lib.hid hco
    rw [hmo, hco]
    clear hi hmo hco
    by_cases hgo : i < kn ∧ i < 5
    · obtain ⟨hlt, h5⟩ := hgo
      · obtain ⟨kb, ko, rfl, hkc⟩ := hK.cells (by omega)
        have hki := (hB.cell (p := ⟨kb, ko + i, none⟩) (cell_lt (hkc i hlt))).trans (hkc i hlt)
        go_upto_region 9 with fail
        go_upto_if 39 with fail
        go_cut [12] (fun nv wx => wr = wx ∧ ∃ n : Nat, n ≤ 7 ∧ nv = .int .i64 n)
        case first =>
          by_cases hs : i < sn
          · obtain ⟨sb, so, rfl, hsc⟩ := hS.cells (by omega)
            have hsi := (hB.cell (p := ⟨sb, so + i, none⟩) (cell_lt (hsc i hs))).trans (hsc i hs)
            go_wp2
            go_meet
            obtain ⟨n, hn, hx⟩ := and7 (sf i)
            exact ⟨rfl, n, hn, by rw [hx]⟩
          · go_wp2
            go_meet
            exact ⟨rfl, 1, by omega, rfl⟩
        case rest =>
          obtain ⟨rfl, n, hn7, rfl⟩ := hcut
          go_wp2
          obtain ⟨w0, hw0⟩ : ∃ y, wr = y := ⟨_, rfl⟩
          rw [hw0] at hEn hB hki ⊢
          clear hw0
          obtain ⟨od, hod⟩ : ∃ od, (bits .and .i64 (kf i) 1 == 1) = od := ⟨_, rfl⟩
          have hkl := cell_lt hki
          go_loopw [13, 10, 11, 7, 8] (fun jv tv wv pv cv wr2 => ∃ (j : Nat) (gs : List (Option Nat)), j ≤ n ∧ jv = .int .i64 j ∧ wv = .int .i64 j ∧ (∃ x : Int, pv = .int .i64 x) ∧ cv = .bool (co && (decide (j = 0) || !od)) ∧ Vr w0.heap.size wr2 tv j od gs ∧ Below w0.heap.size w0 wr2) (fun j _ _ _ _ _ => n - (intOf j).toNat)
          case atStart => exact ⟨0, [], Nat.zero_le _, rfl, rfl, ⟨_, rfl⟩, by simp, ⟨World.ownsRow_nil _ _ _ _, rfl, by simp, by simp, by simp⟩, Below.refl _ _⟩
          case round =>
            obtain ⟨j, gs, hj, rfl, rfl, ⟨px2, rfl⟩, rfl, hVr, hB2⟩ := hrel
            by_cases hjn : j < n
            · have hki2 := (hB2.cell (p := ⟨kb, ko + i, none⟩) hkl).trans hki
              go_upto_region 15 with fail
              have hb4 : Below wr.heap.size wr (wr.alloc (.cells #[.int .i64 6, .string ⟨#[]⟩, .int .i64 0, .slice none 0 0] 26)) := (Below.refl _ _).alloc (Nat.le_refl _) _
              have hA4 := heap_alloc_new wr (.cells #[.int .i64 6, .string ⟨#[]⟩, .int .i64 0, .slice none 0 0] 26)
              obtain ⟨w4, hw4⟩ : ∃ y, wr.alloc (.cells #[.int .i64 6, .string ⟨#[]⟩, .int .i64 0, .slice none 0 0] 26) = y := ⟨_, rfl⟩
              have hs4 : w4.heap.size = wr.heap.size + 1 := by rw [← hw4]; simp
              rw [hw4] at hb4 hA4 ⊢
              have hV4 := hVr.keep (same26_below hb4)
              have hB4 := hB2.trans (hb4.mono hB2.size)
              have hki4 := (hB4.cell (p := ⟨kb, ko + i, none⟩) hkl).trans hki
              have hvlt : ∀ g, Value.ownBlock u10 = some g → g < wr.heap.size := fun g hg => (hVr.own.lt g hg).2
              obtain ⟨tb, htb⟩ : ∃ tb, wr.heap.size = tb := ⟨_, rfl⟩
              have hB2s := hB2.size
              rw [htb] at hA4 hs4 hvlt hB2s ⊢
              have q0 : w4.cell? ⟨tb, 0, none⟩ = some (.int .i64 6) := by rw [cell_of_row _ _ _ _ 26 (0, 0) hA4]; rfl
              have q1 : w4.cell? ⟨tb, 1, none⟩ = some (.string nil0) := by rw [cell_of_row _ _ _ _ 26 (0, 0) hA4]; rfl
              have q2 : w4.cell? ⟨tb, 2, none⟩ = some (.int .i64 0) := by rw [cell_of_row _ _ _ _ 26 (0, 0) hA4]; rfl
              have q3 : w4.cell? ⟨tb, 3, none⟩ = some (.slice none 0 0) := by rw [cell_of_row _ _ _ _ 26 (0, 0) hA4]; rfl
              obtain ⟨fz0, fz1⟩ := row_there4 hA4 rfl
              have hk4 : ∀ g, g < tb → w4.heap[g]? = wr.heap[g]? := fun g hg => hb4.block g (by omega)
              clear hw4 hb4 hki2 hB2
              go_upto_if 56 with fail
              go_cut [8] (fun cv wx => cv = .bool (!od && (co && (decide (j = 0) || !od))) ∧ ∃ x, Mid w0 tb u10 j od gs x wx)
              case first =>
                cases od with
                | false =>
                  have hne : ¬ (bits .and .i64 (kf i) 1 = 1) := by simpa using hod
                  go_wp2
                  go_meet
                  exact ⟨by simp, none, hV4, hB4, fun k hk => (cell_of_row _ _ _ _ 26 (0, 0) hA4).trans (by simp [quad]), rfl, fun g h => by cases h⟩
                | true =>
                  have hne : bits .and .i64 (kf i) 1 = 1 := by simpa using hod
                  have htl : tb < w4.heap.size := by omega
                  have hR : ∀ X, (w4.alloc X).heap[tb]? = _ := fun X => (((Below.refl w4.heap.size w4).alloc (Nat.le_refl _) X).block tb htl).trans hA4
                  go_wp2_with (refine wpList_store_row rfl 26 (.tmp 14) (.tmp 59) rfl 4 t0 ht0 hz1 tb 0 (quad (some (tb + 1))).toArray rfl rfl rfl (by intro u hu; exact quad_one _ u (by simpa using hu)) (row_there4 (hR _) rfl).1 (row_there4 (hR _) rfl).2 ?_; (intro w6 hL6))
                  go_meet
                  have hg6 : ∀ g, g < w4.heap.size → g ≠ tb → w6.heap[g]? = w4.heap[g]? := fun g hg hne => (hL6.grown.block g (by simp; omega) (by intro e; injection e with e; exact hne e)).trans (((Below.refl w4.heap.size w4).alloc (Nat.le_refl _) _).block g hg)
                  have hx6 : w6.heap[tb + 1]? = some (.cells inner 26 (0, 0)) := by
                    have h1 := heap_alloc_new w4 (.cells inner 26)
                    rw [hs4] at h1
                    exact (hL6.grown.block (tb + 1) (by simp; omega) (by intro e; injection e with e; omega)).trans h1
                  refine ⟨by simp, some (tb + 1), hVr.keep (fun g cur p hg => ?_), below_laid (hB4.alloc hB4.size _) hL6 hB2s (by simp; omega), fun k hk => ?_, rfl, fun g h => ?_⟩
                  · have hgl := (Array.getElem?_eq_some_iff.1 hg).1
                    rw [htb] at hgl
                    exact (hg6 g (by omega) (by omega)).trans (hk4 g hgl)
                  · have := hL6.cells k (by simpa [quad_len] using hk)
                    rw [Nat.zero_add] at this
                    rw [this]; simp
                  · injection h with h
                    subst h
                    exact ⟨hx6, fun e => by have := hvlt _ e; omega⟩
              case rest =>
                obtain ⟨rfl, x, hM⟩ := hcut
                have hMc := hM.cells
                have hws := hM.bel.size
                cases x with
                | none =>
                  have c0 : wc.cell? ⟨tb, 0, none⟩ = some (.int .i64 6) := hMc 0 (by omega)
                  have c1 : wc.cell? ⟨tb, 1, none⟩ = some (.string nil0) := hMc 1 (by omega)
                  have c2 : wc.cell? ⟨tb, 2, none⟩ = some (.int .i64 0) := hMc 2 (by omega)
                  have c3 : wc.cell? ⟨tb, 3, none⟩ = some (.slice none 0 0) := hMc 3 (by omega)
                  clear hMc
                  have hb7 : Below wc.heap.size wc (wc.alloc (.cells (quad none).toArray 26)) := (Below.refl _ _).alloc (Nat.le_refl _) _
                  have hV7 := hM.vr.keep (same26_below hb7)
                  go_wp2_with (refine wpList_append_own2 rfl (.tmp 60) (.tmp 62) 24 rfl w0.heap.size 26 t0 _ 4 56 Try.underlying24 ht0 hz0 hz1 hz2 rfl (by decide) u10 j (gs.flatMap quad) rfl hV7.own ⟨wc.heap.size, 0, none⟩ 1 1 (quad none) rfl rfl (lit_cells wc 26 (quad none)) (quad_one none) (by unfold maxLen; omega) (by omega) (by simp; omega) ?_; intro v8 w8 hown hgr hG)
                  have hV8 := hV7.more none hM.kind (fun g h => by cases h) hown hgr hG
                  have hB8 := (hM.bel.trans (hb7.mono hws)).grown hgr (by simp; omega) (fun g hg => (hV7.own.lt g hg).1)
                  go_roundw
                  case rel => exact ⟨j + 1, _, by omega, by go_num, by go_num, ⟨_, rfl⟩, by cases od <;> simp, hV8, hB8⟩
                  case measure => simp [intOf]; omega
                | some g =>
                  have c0 : wc.cell? ⟨tb, 0, none⟩ = some (.int .i64 11) := hMc 0 (by omega)
                  have c1 : wc.cell? ⟨tb, 1, none⟩ = some (.string nil0) := hMc 1 (by omega)
                  have c2 : wc.cell? ⟨tb, 2, none⟩ = some (.int .i64 0) := hMc 2 (by omega)
                  have c3 : wc.cell? ⟨tb, 3, none⟩ = some (.slice (some ⟨g, 0, none⟩) 1 1) := hMc 3 (by omega)
                  clear hMc
                  have hb7 : Below wc.heap.size wc (wc.alloc (.cells (quad (some g)).toArray 26)) := (Below.refl _ _).alloc (Nat.le_refl _) _
                  have hV7 := hM.vr.keep (same26_below hb7)
                  have hbx := hM.box g rfl
                  go_wp2_with (refine wpList_append_own2 rfl (.tmp 60) (.tmp 62) 24 rfl w0.heap.size 26 t0 _ 4 56 Try.underlying24 ht0 hz0 hz1 hz2 rfl (by decide) u10 j (gs.flatMap quad) rfl hV7.own ⟨wc.heap.size, 0, none⟩ 1 1 (quad (some g)) rfl rfl (lit_cells wc 26 (quad (some g))) (quad_one (some g)) (by unfold maxLen; omega) (by omega) (by simp; omega) ?_; intro v8 w8 hown hgr hG)
                  have hV8 := hV7.more (some g) hM.kind (fun g' h => by injection h with h; subst h; exact ⟨(hb7.block g (Array.getElem?_eq_some_iff.1 hbx.1).1).trans hbx.1, hbx.2⟩) hown hgr hG
                  have hB8 := (hM.bel.trans (hb7.mono hws)).grown hgr (by simp; omega) (fun g hg => (hV7.own.lt g hg).1)
                  go_roundw
                  case rel => exact ⟨j + 1, _, by omega, by go_num, by go_num, ⟨_, rfl⟩, by cases od <;> simp, hV8, hB8⟩
                  case measure => simp [intOf]; omega
            · obtain rfl : j = n := by omega
              go_upto_region 21 with fail
              go_cut [6] (fun mv wx => mv = .int .i64 ((max mo j : Nat) : Int) ∧ wr = wx)
              case first =>
                go_wp2
                all_goals
                  go_meet
                  exact ⟨by congr 1; omega, rfl⟩
              case rest =>
                obtain ⟨rfl, rfl⟩ := hcut
                obtain ⟨tv, tc, rfl, _⟩ := hVr.types
                obtain ⟨rs, hrl, hro, hrv⟩ := hEn.ex
                have hconv := name_conv wr i h5
                have hb6 : Below wr.heap.size wr (wr.alloc (.cells #[.int .u8 (65 + (i : Int))] 5)) := (Below.refl _ _).alloc (Nat.le_refl _) _
                have hb7 : Below wr.heap.size wr ((wr.alloc (.cells #[.int .u8 (65 + (i : Int))] 5)).alloc (.cells #[.string (nameN i), .slice tv j tc, .int .i64 0] 48)) := hb6.alloc (by simp) _
                have hlit := lit_cells (wr.alloc (.cells #[.int .u8 (65 + (i : Int))] 5)) 48 [.string (nameN i), .slice tv j tc, .int .i64 0]
                rw [show (wr.alloc (.cells #[.int .u8 (65 + (i : Int))] 5)).heap.size = wr.heap.size + 1 by simp] at hlit
                have hB27 := hB2.trans (hb7.mono hB2.size)
                have hro7 := own_keep hro (W' := ((wr.alloc (.cells #[.int .u8 (65 + (i : Int))] 5)).alloc (.cells #[.string (nameN i), .slice tv j tc, .int .i64 0] 48))) (fun g cur p _ hg => hB27.block g (Array.getElem?_eq_some_iff.1 hg).1)
                rw [HI.out] at hro7
                have hWs := hB.size
                have h2s := hB2.size
                have hone : ∀ u ∈ [.string (nameN i), .slice tv j tc, .int .i64 0], Value.oneCell' u = true := by
                  intro u hu
                  simp only [List.mem_cons, List.not_mem_nil, or_false] at hu
                  rcases hu with rfl | rfl | rfl
                  · rfl
                  · rfl
                  · rfl
                go_wp2_with (refine wpList_append_own2 rfl (.tmp 71) (.tmp 79) 30 rfl W.heap.size 48 y0 _ 3 48 Try.underlying30 hy0 hy1 hy2 hy3 rfl (by decide) u5 i (flat3 0 rs) rfl hro7 ⟨wr.heap.size + 1, 0, none⟩ 1 1 [.string (nameN i), .slice tv j tc, .int .i64 0] rfl rfl hlit hone (by unfold maxLen; omega) (by omega) (by simp; omega) ?_; intro v8 w8 hown hgr hG)
                have hs78 := same26_grown hro7 (by decide) hgr
                have hs07 := same26_below hB27
                have hEn8 : En W.heap.size w8 v8 (E ++ [(j, od)]) := En.more hrl hrv (fun g cur p hg => (hs78 g cur p ((hs07 g cur p hg).trans hg)).trans (hs07 g cur p hg)) (((hVr.keep (same26_below hb7)).keep hs78).base hWs) (by rw [HI.out]; exact hown)
                have hB8 := (hB.trans (hB27.mono hWs)).grown hgr (by have := hB27.size; omega) (fun g hg => (hro7.lt g hg).1)
                go_roundw
                case rel =>
                  have hi' := HI.out
                  refine ⟨E ++ [(j, od)], by rw [List.length_append]; simp; omega, by rw [List.length_append]; simp; omega, ?_, hEn8, ?_, ?_, ⟨_, rfl⟩, ?_, hB8⟩
                  · rw [List.length_append, hi']
                    first
                      | go_num
                      | simp
                  · intro p hp
                    rcases List.mem_append.1 hp with hp | hp
                    · exact hE7 p hp
                    · simp only [List.mem_singleton] at hp
                      subst hp
                      exact hn7
                  · have := HMo.out
                    unfold mostE at this ⊢
                    rw [List.foldl_append, this]
                    rfl
                  · have := HCo.out
                    unfold copE at this ⊢
                    rw [List.all_append, this]
                    simp
                case measure => simp [intOf]; omega
    · go_upto_region 4 with fail
      go_cut [33] (fun tv wx => tv = .bool false ∧ wr = wx)
      case first =>
        by_cases hlt : i < kn
        · have h5 : ¬ i < 5 := fun h => hgo ⟨hlt, h⟩
          go_wp2
          go_meet
          exact ⟨by congr 1; simp; omega, rfl⟩
        · go_wp2
          go_meet
          exact ⟨rfl, rfl⟩
      case rest =>
        obtain ⟨rfl, rfl⟩ := hcut
        obtain ⟨va, vc, hva, hVs⟩ := hEn.at hE7
        rw [HI.out] at hva
        subst hva
        clear hEn hgo
        have hE5' : E.length ≤ 5 := by have := HI.out; omega
        go_upto_region 25 with fail
        have hZ : Below wr.heap.size wr ((wr.alloc (.cells (itCells 3 nmE none 0 0 va i vc tl0).toArray 35)).alloc (.cells #[.int .i64 9, .string ⟨#[69]⟩, .int .i64 0, .slice none 0 0] 26)) := ((Below.refl _ _).alloc (Nat.le_refl _) _).alloc (by simp) _
        have hI0 := heap_alloc_new wr (.cells (itCells 3 nmE none 0 0 va i vc tl0).toArray 35)
        have hI1 := (((Below.refl (wr.alloc (.cells (itCells 3 nmE none 0 0 va i vc tl0).toArray 35)).heap.size _).alloc (Nat.le_refl _) (.cells #[.int .i64 9, .string ⟨#[69]⟩, .int .i64 0, .slice none 0 0] 26)).block wr.heap.size (by simp)).trans hI0
        have hT1 := heap_alloc_new (wr.alloc (.cells (itCells 3 nmE none 0 0 va i vc tl0).toArray 35)) (.cells #[.int .i64 9, .string ⟨#[69]⟩, .int .i64 0, .slice none 0 0] 26)
        rw [show (wr.alloc (.cells (itCells 3 nmE none 0 0 va i vc tl0).toArray 35)).heap.size = wr.heap.size + 1 by simp] at hT1
        obtain ⟨wz, hwz⟩ : ∃ y, (wr.alloc (.cells (itCells 3 nmE none 0 0 va i vc tl0).toArray 35)).alloc (.cells #[.int .i64 9, .string ⟨#[69]⟩, .int .i64 0, .slice none 0 0] 26) = y := ⟨_, rfl⟩
        rw [hwz] at hZ hI1 hT1
        have hAns := ans_of E hE5' hE7 wr.heap.size wz va vc (hVs.keep hZ) (by rw [HI.out]; exact hI1)
        have hVz := hVs.keep hZ
        have hBz := hB.trans (hZ.mono hB.size)
        obtain ⟨tb, htb⟩ : ∃ tb, wr.heap.size + 1 = tb := ⟨_, rfl⟩
        obtain ⟨ib, hib⟩ : ∃ ib, wr.heap.size = ib := ⟨_, rfl⟩
        rw [htb] at hT1
        rw [hib] at hAns
        rw [htb, hib]
        show Code.wp Try.prog _ _ _ ((wr.alloc (.cells (itCells 3 nmE none 0 0 va i vc tl0).toArray 35)).alloc (.cells #[.int .i64 9, .string ⟨#[69]⟩, .int .i64 0, .slice none 0 0] 26))
        rw [hwz]
        have k0 : wz.cell? ⟨tb, 0, none⟩ = some (.int .i64 9) := by rw [cell_of_row _ _ _ _ 26 (0, 0) hT1]; rfl
        have k1 : wz.cell? ⟨tb, 1, none⟩ = some (.string ⟨#[69]⟩) := by rw [cell_of_row _ _ _ _ 26 (0, 0) hT1]; rfl
        have k2 : wz.cell? ⟨tb, 2, none⟩ = some (.int .i64 0) := by rw [cell_of_row _ _ _ _ 26 (0, 0) hT1]; rfl
        have k3 : wz.cell? ⟨tb, 3, none⟩ = some (.slice none 0 0) := by rw [cell_of_row _ _ _ _ 26 (0, 0) hT1]; rfl
        have hw := hAns.words
        rw [HMo.out] at hw
        have hmo7 : mo ≤ 7 := by rw [← HMo.out]; exact most_le E 0 (by omega) hE7
        clear hZ hI0 hI1 hT1 hwz hB hVs htb hib
        go_upto_region 26 with (go_at_call 7; refine hw.mono ?_; rintro e w1 ⟨rfl, hb1⟩)
        have e0 := (hb1.cell (p := ⟨tb, 0, none⟩) (cell_lt k0)).trans k0
        have e1 := (hb1.cell (p := ⟨tb, 1, none⟩) (cell_lt k1)).trans k1
        have e2 := (hb1.cell (p := ⟨tb, 2, none⟩) (cell_lt k2)).trans k2
        have e3 := (hb1.cell (p := ⟨tb, 3, none⟩) (cell_lt k3)).trans k3
        have hcp := hAns.copy w1 hb1
        rw [HCo.out] at hcp
        clear hw
        go_wp2_with (go_at_call 10; refine hcp.mono ?_; rintro e w2 ⟨rfl, hb2⟩)
        clear hcp e0 e1 e2 e3
        have hB2 := hb1.trans (hb2.mono hb1.size)
        go_loopw [19] (fun jv wx => ∃ j : Nat, j ≤ i ∧ jv = .int .i64 j ∧ Below wz.heap.size wz wx) (fun j _ => i - (intOf j).toNat)
        case atStart => exact ⟨0, Nat.zero_le _, rfl, hB2⟩
        case round =>
          obtain ⟨j, hj, rfl, hBj⟩ := hrel
          have e0 := (hBj.cell (p := ⟨tb, 0, none⟩) (cell_lt k0)).trans k0
          have e1 := (hBj.cell (p := ⟨tb, 1, none⟩) (cell_lt k1)).trans k1
          have e2 := (hBj.cell (p := ⟨tb, 2, none⟩) (cell_lt k2)).trans k2
          have e3 := (hBj.cell (p := ⟨tb, 3, none⟩) (cell_lt k3)).trans k3
          by_cases hji : j < i
          · obtain ⟨p, hp⟩ : ∃ p, E[j]? = some p := ⟨_, List.getElem?_eq_getElem (by have := HI.out; omega)⟩
            have hvg : (vsE 0 E)[j]? = some (nameN (0 + j), List.replicate p.1 (tyB p.2)) := by rw [vsE_get, hp]; rfl
            obtain ⟨vb, vo, ta, tc, x, rfl, x0, x1, x2, _, _⟩ := hVz j _ hvg
            simp only [Nat.zero_add, List.length_replicate] at x0 x1
            have f0 := (hBj.cell (p := ⟨vb, vo + j * 3, none⟩) (cell_lt x0)).trans x0
            have hvr := hAns.var wr.drew (below_dr hBj) j p hp
            have hdb := below_dr hBj
            go_upto_region 31 with fail
            go_region_law (first
              | (go_simp; go_at_call 14; refine hvr.mono ?_; rintro e w3 ⟨⟨ra, rc, rfl⟩, hb3⟩))
            all_goals
              have hBn := hdb.trans (hb3.mono hdb.size)
              have g0 := (hBn.cell (p := ⟨vb, vo + j * 3, none⟩) (cell_lt x0)).trans x0
              have g1 := (hBn.cell (p := ⟨vb, vo + j * 3 + 1, none⟩) (cell_lt x1)).trans x1
              go_wp2
              go_roundw
              case rel => exact ⟨j + 1, by omega, by go_num, hBn⟩
              case measure => simp [intOf]; omega
          · obtain rfl : j = i := by omega
            have hzd := hAns.zed wr hBj
            go_wp2_with (go_at_call 14; refine hzd.mono ?_; rintro e w3 ⟨rfl, hb3⟩)
            exact bodyPost_ret (v := .bool true) (by simp [results, Try.results5, go_sem]) rfl ⟨rfl, hBz.trans ((hBj.trans (hb3.mono hBj.size)).mono hBz.size)⟩
end Go.Proofs.Ytioediibbgklcaa.W
