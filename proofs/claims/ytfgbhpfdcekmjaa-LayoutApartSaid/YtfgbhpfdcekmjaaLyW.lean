/- LayoutApart: the walk. -/
import Derived.Test.YtfgbhpfdcekmjaaLyL
import Derived.Test.YtfgbhpfdcekmjaaLyS
namespace Go.Proofs.Ytfgbhpfdcekmjaa.W
open Go Go.RowKit Go.Proofs
set_option linter.unusedVariables false
set_option linter.unusedSimpArgs false
theorem own_shape {W : World} {B e s n : Nat} {v : Value} {xs : List Value} (h : W.ownsRow B e s v n xs) : ∃ ao cap, v = .slice ao n cap ∧ (0 < n → ∃ g, ao = some ⟨g, 0, none⟩) := by
  rcases h.2 with ⟨rfl, rfl⟩ | ⟨g, cap, cur, rfl, _⟩
  · exact ⟨none, 0, rfl, fun h => absurd h (by omega)⟩
  · exact ⟨some ⟨g, 0, none⟩, cap, rfl, fun _ => ⟨g, rfl⟩⟩
theorem own_cellAt {W W' : World} {B g n cap : Nat} {xs : List Value} (h : W.ownsRow B 3 1 (.slice (some ⟨g, 0, none⟩) n cap) n xs) (hb : Below W.heap.size W W') {j : Nat} (hj : j < n) {v : Value} (hx : xs[j]? = some v) : W'.cell? ⟨g, j, none⟩ = some v := by
  have hc := h.cells (g := g) rfl j v hx
  rw [Addr.add_lit, Nat.zero_add] at hc
  exact ((bcell hb).1 _ _ (cell_lt hc)).trans hc
theorem below_drew (W : World) : Below W.heap.size W W.drew := ⟨rfl, rfl, rfl, Nat.le_refl _, fun _ _ => rfl⟩
theorem pre_succ (p : Nat → Bool) (lf : Nat → Int) (k : Nat) : pre p lf (k + 1) = pre p lf k + if p k then 0 else max (lf k) 0 := rfl
theorem pre_mono (p : Nat → Bool) (lf : Nat → Int) {i : Nat} : ∀ {n : Nat}, i ≤ n → pre p lf i ≤ pre p lf n
  | 0, h => by
      obtain rfl : i = 0 := by omega
      exact Int.le_refl _
  | n + 1, h => by
      by_cases e : i = n + 1
      · subst e; exact Int.le_refl _
      · have h2 := pre_mono p lf (i := i) (n := n) (by omega)
        rw [pre_succ]
        split
        · omega
        · have : 0 ≤ max (lf n) 0 := by omega
          omega
theorem pre_own (p : Nat → Bool) (lf : Nat → Int) {i : Nat} (h : p i = false) : pre p lf (i + 1) = pre p lf i + max (lf i) 0 := by simp [pre, h]
set_option maxHeartbeats 8000000 in
set_option maxRecDepth 100000 in
theorem apart_core (v0 v2 v3 v4 : Value) (la : Option Addr) (n lc : Nat) (lf : Nat → Int) (ba : Option Addr) (bn bc : Nat) (a : Int) (W : World) (hnn : n ≤ 9223372036854775807) (hbn : bn ≤ 9223372036854775807)
    (hl : 0 < n → ∃ b o, la = some ⟨b, o, none⟩ ∧ ∀ j, j < n → W.cell? ⟨b, o + j, none⟩ = some (.int .i64 (lf j))) (hB : BlocksAt W 7 ba bn) :
    Calls Try.prog 4 #[.agg #[v0, .slice la n lc, v2, v3, v4, .slice ba bn bc], .int .i64 a] W fun e w' => e = .returned (.bool true) ∧ Below W.heap.size W w' := by
  have hbA : ∀ X, Below W.heap.size W (W.alloc X) := fun X => (Below.refl _ _).alloc (Nat.le_refl _) _
  by_cases hn : 100 < n
  · go_enter Try.func4, Try.ntmps4
    go_wp2
    go_ret
    exact ⟨rfl, hbA _⟩
  · have hn' : n ≤ 100 := by omega
    go_enter Try.func4, Try.ntmps4
    go_wp2
    have kf : (W.alloc (.cells #[v0, .slice la n lc, v2, v3, v4, .slice ba bn bc] 30)).heap[W.heap.size]? = some (.cells #[v0, .slice la n lc, v2, v3, v4, .slice ba bn bc] 30 (0, 0)) := heap_alloc_new W _
    have hAw := hbA (.cells #[v0, .slice la n lc, v2, v3, v4, .slice ba bn bc] 30)
    have sA : W.heap.size < (W.alloc (.cells #[v0, .slice la n lc, v2, v3, v4, .slice ba bn bc] 30)).heap.size := by simp
    obtain ⟨wA, hwA⟩ : ∃ x, W.alloc (.cells #[v0, .slice la n lc, v2, v3, v4, .slice ba bn bc] 30) = x := ⟨_, rfl⟩
    rw [hwA] at kf hAw sA ⊢
    clear hwA hbA
    obtain ⟨fb, hfb⟩ : ∃ x, W.heap.size = x := ⟨_, rfl⟩
    have hlA : 0 < n → ∃ b o, la = some ⟨b, o, none⟩ ∧ ∀ j, j < n → wA.cell? ⟨b, o + j, none⟩ = some (.int .i64 (lf j)) := fun h0 => by
      obtain ⟨b, o, e, hc⟩ := hl h0
      exact ⟨b, o, e, fun j hj => ((bcell hAw).1 _ _ (cell_lt (hc j hj))).trans (hc j hj)⟩
    have hBA : BlocksAt wA 7 ba bn := hB.below hAw
    have kfs : ∀ w', Below wA.heap.size wA w' → ∀ i v, #[v0, .slice la n lc, v2, v3, v4, .slice ba bn bc][i]? = some v → w'.cell? ⟨fb, i, none⟩ = some v := fun w' hb i v hv => by
      rw [(bcell hb).1 fb i (by omega), ← hfb, cell_of_row _ _ i _ 30 (0, 0) kf]; exact hv
    rw [hfb]
    clear hfb kf sA hl hB
    have c0 := kfs wA (Below.refl _ _) 0 _ rfl
    have c1 := kfs wA (Below.refl _ _) 1 _ rfl
    have c2 := kfs wA (Below.refl _ _) 2 _ rfl
    have c3 := kfs wA (Below.refl _ _) 3 _ rfl
    have c4 := kfs wA (Below.refl _ _) 4 _ rfl
    have c5 := kfs wA (Below.refl _ _) 5 _ rfl
    have HK := Lib.hid kfs
    have HL := Lib.hid hlA
    clear kfs hlA
    go_loopg [5] n (fun g tk wx => wA = wx ∧ ∃ k : Nat, k ≤ n ∧ g = n - k ∧ tk = .int .i64 k ∧ ∀ j, j < k → lf j ≤ 1073741824)
    case atStart => exact ⟨rfl, 0, by omega, rfl, rfl, fun j hj => by omega⟩
    case round =>
      obtain ⟨rfl, k, hk, rfl, rfl, hlk⟩ := hrel
      by_cases hlt : k < n
      · obtain ⟨lb, lo, rfl, hlc⟩ := HL.out (by omega)
        have k1 := hlc k hlt
        by_cases hbig : 1073741824 < lf k
        · clear hlc HL hlk
          go_wp2
          go_ret
          exact ⟨rfl, hAw⟩
        · have hbig' : decide (1073741824 < lf k) = false := by simp; omega
          have HLK := Lib.hid hlk
          clear hlc HL hlk hbig
          go_wp2
          go_roundg (n - (k + 1))
          case measure => omega
          case rel => exact ⟨rfl, k + 1, by omega, rfl, by go_num, fun j hj => by
            by_cases e : j = k
            · subst e; simpa using hbig'
            · exact HLK.out j (by omega)⟩
      · obtain rfl : k = n := by omega
        have HLK := Lib.hid hlk
        clear hlk
        go_upto_region 9 with (go_at_call 7; refine (layout_calls v0 v2 v3 v4 la k lc lf ba bn bc _ hn' hbn HL.out HLK.out hBA).mono ?_; rintro e w2 ⟨av, p, rfl, hown, hB2⟩)
        obtain ⟨ao, ac, rfl, hao⟩ := own_shape hown
        have hw0 := (pre_bd p lf k HLK.out).1
        have d1 := HK.out w2 hB2 1 _ rfl
        have hBW : Below W.heap.size W w2 := hAw.trans (hB2.mono hAw.size)
        have hw0' : decide (pre p lf k < 0) = false := by simp; omega
        clear c0 c1 c2 c3 c4 c5
        go_wp2
        have HO := Lib.hid hown
        go_loopg [8] k (fun g ti wx => Below w2.heap.size w2 wx ∧ ∃ i : Nat, i ≤ k ∧ g = k - i ∧ ti = .int .i64 i)
        case atStart => exact ⟨Below.refl _ _, 0, by omega, rfl, rfl⟩
        case round =>
          clear d1
          obtain ⟨hBr, i, hi, rfl, rfl⟩ := hrel
          by_cases hil : i < k
          · obtain ⟨g, rfl⟩ := hao (by omega)
            obtain ⟨lb, lo, rfl, hlc⟩ := HL.out (by omega)
            have d2 := own_cellAt hown hBr hil (v := .int .i64 (atOf p lf i)) (by simp [atL, hil])
            have d1 := HK.out wr (hB2.trans (hBr.mono hB2.size)) 1 _ rfl
            have kl := ((bcell (hB2.trans (hBr.mono hB2.size))).1 _ _ (cell_lt (hlc i hil))).trans (hlc i hil)
            have hbd := pre_bd p lf i (fun j hj => HLK.out j (by omega))
            have hle := HLK.out i hil
            cases hpi : p i with
            | true =>
              have ea : atOf p lf i = -1 := by simp [atOf, hpi]
              rw [ea] at d2
              clear hlc
              go_wp2
              go_roundg (k - (i + 1))
              case measure => omega
              case rel => exact ⟨hBr, i + 1, by omega, rfl, by go_num⟩
            | false =>
              have ea : atOf p lf i = pre p lf i := by simp [atOf, hpi]
              rw [ea] at d2
              have hm := pre_mono p lf (i := i + 1) (n := k) (by omega)
              rw [pre_own p lf hpi] at hm
              have hbk := pre_bd p lf k HLK.out
              have t1 : decide (pre p lf i < 0) = false := by simp; omega
              go_upto_region 15 with fail
              go_cut [67] (fun b wx => b = .bool false ∧ Below wr.heap.size wr wx)
              case first =>
                rcases Int.lt_or_le (lf i) 0 with hneg | hpos
                · rw [Int.max_eq_right (by omega)] at hm
                  have t2 : decide (pre p lf k < pre p lf i) = false := by simp; omega
                  go_region
                  all_goals
                    go_wp2
                    go_meet
                    exact ⟨rfl, below_drew wr⟩
                · rw [Int.max_eq_left hpos] at hm
                  have t2 : decide (pre p lf k < pre p lf i + lf i) = false := by simp; omega
                  go_region
                  all_goals
                    go_wp2
                    go_meet
                    exact ⟨rfl, below_drew wr⟩
              case rest =>
                obtain ⟨rfl, hBc⟩ := hcut
                have hBr2 := hBr.trans (hBc.mono hBr.size)
                clear d1 d2 kl
                go_wp2
                go_loopg [9] i (fun g tj wx => Below w2.heap.size w2 wx ∧ ∃ j : Nat, j ≤ i ∧ g = i - j ∧ tj = .int .i64 j)
                case atStart => exact ⟨hBr2, 0, by omega, rfl, rfl⟩
                case round =>
                  clear hBr2
                  obtain ⟨hBr, j, hj, rfl, rfl⟩ := hrel
                  by_cases hjl : j < i
                  · have d2 := own_cellAt hown hBr (j := j) (by omega) (v := .int .i64 (atOf p lf j)) (by simp [atL, show j < k by omega])
                    have d3 := own_cellAt hown hBr (j := i) (by omega) (v := .int .i64 (pre p lf i)) (by simp [atL, atOf, hpi, hil])
                    have d1 := HK.out wr (hB2.trans (hBr.mono hB2.size)) 1 _ rfl
                    have kl1 := ((bcell (hB2.trans (hBr.mono hB2.size))).1 _ _ (cell_lt (hlc i (by omega)))).trans (hlc i (by omega))
                    have kl2 := ((bcell (hB2.trans (hBr.mono hB2.size))).1 _ _ (cell_lt (hlc j (by omega)))).trans (hlc j (by omega))
                    go_upto_region 20 with fail
                    go_cut [113] (fun b wx => b = .bool false ∧ Below wr.heap.size wr wx)
                    case first =>
                      cases hpj : p j with
                      | true =>
                        have ea : atOf p lf j = -1 := by simp [atOf, hpj]
                        rw [ea] at d2
                        go_region
                        all_goals
                          go_wp2
                          go_meet
                          exact ⟨rfl, below_drew wr⟩
                      | false =>
                        have ea : atOf p lf j = pre p lf j := by simp [atOf, hpj]
                        rw [ea] at d2
                        have hm2 := pre_mono p lf (i := j + 1) (n := i) (by omega)
                        rw [pre_own p lf hpj] at hm2
                        have hbj := pre_bd p lf j (fun y hy => HLK.out y (by omega))
                        have hlj := HLK.out j (by omega)
                        obtain ⟨mi, hmi⟩ : ∃ x, max (lf i) 0 = x := ⟨_, rfl⟩
                        obtain ⟨mj, hmj⟩ : ∃ x, max (lf j) 0 = x := ⟨_, rfl⟩
                        have t0 : (0 : Int) ≤ pre p lf j := hbj.1
                        rcases Int.lt_or_le (lf j) 0 with nj | nj
                        · rw [Int.max_eq_right (by omega)] at hm2
                          have t2 : decide (pre p lf i < pre p lf j) = false := by simp; omega
                          rcases Int.lt_or_le (lf i) 0 with ni | ni
                          · cases t1 : decide (pre p lf j < pre p lf i) with
                            | true =>
                              go_region
                              all_goals
                                go_wp2
                                go_meet
                                exact ⟨rfl, below_drew wr⟩
                            | false =>
                              go_region
                              all_goals
                                go_wp2
                                go_meet
                                exact ⟨rfl, below_drew wr⟩
                          · cases t1 : decide (pre p lf j < pre p lf i + lf i) with
                            | true =>
                              go_region
                              all_goals
                                go_wp2
                                go_meet
                                exact ⟨rfl, below_drew wr⟩
                            | false =>
                              go_region
                              all_goals
                                go_wp2
                                go_meet
                                exact ⟨rfl, below_drew wr⟩
                        · rw [Int.max_eq_left nj] at hm2
                          have t2 : decide (pre p lf i < pre p lf j + lf j) = false := by simp; omega
                          rcases Int.lt_or_le (lf i) 0 with ni | ni
                          · cases t1 : decide (pre p lf j < pre p lf i) with
                            | true =>
                              go_region
                              all_goals
                                go_wp2
                                go_meet
                                exact ⟨rfl, below_drew wr⟩
                            | false =>
                              go_region
                              all_goals
                                go_wp2
                                go_meet
                                exact ⟨rfl, below_drew wr⟩
                          · cases t1 : decide (pre p lf j < pre p lf i + lf i) with
                            | true =>
                              go_region
                              all_goals
                                go_wp2
                                go_meet
                                exact ⟨rfl, below_drew wr⟩
                            | false =>
                              go_region
                              all_goals
                                go_wp2
                                go_meet
                                exact ⟨rfl, below_drew wr⟩
                    case rest =>
                      obtain ⟨rfl, hBd0⟩ := hcut
                      have hBd := hBd0.mono hBr.size
                      clear d1 d2 d3 kl1 kl2
                      go_wp2
                      go_roundg (i - (j + 1))
                      case measure => omega
                      case rel => exact ⟨hBr.trans hBd, j + 1, by omega, rfl, by go_num⟩
                  · obtain rfl : j = i := by omega
                    go_wp2
                    go_roundg (k - (j + 1))
                    case measure => omega
                    case rel => exact ⟨hBr, j + 1, by omega, rfl, by go_num⟩
          · obtain rfl : i = k := by omega
            go_wp2_with (first
              | (go_at_call 5; refine (split_calls a _).mono ?_; rintro e w' ⟨x, l, rfl, rfl, x1, x2, l1, l2, hs⟩)
              | (go_at_call 6; refine (fits_calls l _ l1 l2).mono ?_; rintro e w' ⟨rfl, rfl⟩))
            go_ret
            have hfin : ((x * 4096 + l) % 4294967296 == a % 4294967296) = true := by simp; omega
            refine ⟨?_, hBW.trans (hBr.mono hBW.size)⟩
            show Ending.returned (.bool ((x * 4096 + l) % 4294967296 == a % 4294967296)) = _
            rw [hfin]
end Go.Proofs.Ytfgbhpfdcekmjaa.W
