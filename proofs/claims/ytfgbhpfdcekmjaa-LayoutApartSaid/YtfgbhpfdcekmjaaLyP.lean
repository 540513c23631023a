/- fold.Plain: a row of truth values, one a local. -/
import Derived.Test.YtfgbhpfdcekmjaaLyA
import Derived.Deep.OwnRows
import Derived.Deep.LoopGhost
import Derived.Deep.DeepCutAuto
namespace Go.Proofs.Ytfgbhpfdcekmjaa.W
open Go Go.RowKit Go.Proofs
set_option linter.unusedVariables false
set_option linter.unusedSimpArgs false
/-- A place lies at an address. -/
structure PlaceAt (W : World) (b o : Nat) : Prop where
  is : ∃ (l : Int) (so : Option Addr) (sn sc : Nat), W.cell? ⟨b, o, none⟩ = some (.int .i64 l) ∧ W.cell? ⟨b, o + 1, none⟩ = some (.slice so sn sc) ∧ (0 < sn → ∃ b' o', ∃ kd : Int, so = some ⟨b', o', none⟩ ∧ W.cell? ⟨b', o', none⟩ = some (.int .i64 kd))
/-- Instructions lie in a row. -/
structure InstrsAt (W : World) (lo : Option Addr) (ln : Nat) : Prop where
  is : 0 < ln → ∃ b o, lo = some ⟨b, o, none⟩ ∧ ∀ i, i < ln → (∃ op : Int, W.cell? ⟨b, o + i * 18, none⟩ = some (.int .i64 op)) ∧ PlaceAt W b (o + i * 18 + 6) ∧ PlaceAt W b (o + i * 18 + 8)
/-- Blocks lie in a row. -/
structure BlocksAt (W : World) (S : Nat) (bo : Option Addr) (bn : Nat) : Prop where
  is : 0 < bn → ∃ b o, bo = some ⟨b, o, none⟩ ∧ ∀ i, i < bn → ∃ lo ln lc, W.cell? ⟨b, o + i * S, none⟩ = some (.slice lo ln lc) ∧ ln ≤ 9223372036854775807 ∧ InstrsAt W lo ln
theorem cell_lt {W : World} {b o : Nat} {v : Value} (h : W.cell? ⟨b, o, none⟩ = some v) : b < W.heap.size := by
  by_cases q : b < W.heap.size
  · exact q
  · exfalso
    have e : W.heap[b]? = none := Array.getElem?_eq_none (by omega)
    simp [World.cell?, e] at h
theorem PlaceAt.below {W W' : World} {b o : Nat} (h : PlaceAt W b o) (hb : Below W.heap.size W W') : PlaceAt W' b o := by
  obtain ⟨l, so, sn, sc, h1, h2, h3⟩ := h.is
  obtain ⟨c, _⟩ := bcell hb
  exact ⟨l, so, sn, sc, (c _ _ (cell_lt h1)).trans h1, (c _ _ (cell_lt h2)).trans h2, fun hs => by
    obtain ⟨b', o', kd, e, h4⟩ := h3 hs
    exact ⟨b', o', kd, e, (c _ _ (cell_lt h4)).trans h4⟩⟩
/-- While the row is filled. -/
structure PS (W0 : World) (g fb n : Nat) (lv bv : Value) (wx : World) : Prop where
  bools : ∀ k, k < n → ∃ b, wx.cell? ⟨g, k, none⟩ = some (.bool b)
  froz : ∀ k, k < n → wx.frozen? ⟨g, k, none⟩ = false
  f1 : wx.cell? ⟨fb, 1, none⟩ = some lv
  f5 : wx.cell? ⟨fb, 5, none⟩ = some bv
  bel : Below W0.heap.size W0 wx
  ltg : g < wx.heap.size
  ltf : fb < wx.heap.size
  geg : W0.heap.size ≤ g
  ne : g ≠ fb
theorem PS.below {W0 : World} {g fb n : Nat} {lv bv : Value} {wx w' : World} (h : PS W0 g fb n lv bv wx) (hb : Below wx.heap.size wx w') : PS W0 g fb n lv bv w' := by
  obtain ⟨c, f⟩ := bcell hb
  exact ⟨fun k hk => by
    obtain ⟨b, hb⟩ := h.bools k hk
    exact ⟨b, (c _ _ h.ltg).trans hb⟩, fun k hk => (f _ _ h.ltg).trans (h.froz k hk), (c _ _ h.ltf).trans h.f1, (c _ _ h.ltf).trans h.f5, h.bel.trans (hb.mono h.bel.size), by have := hb.size; have := h.ltg; omega, by have := hb.size; have := h.ltf; omega, h.geg, h.ne⟩
theorem PS.set {W0 : World} {g fb n : Nat} {lv bv : Value} {wx : World} (h : PS W0 g fb n lv bv wx) (k : Nat) (x : Bool) : PS W0 g fb n lv bv (wx.setCell ⟨g, k, none⟩ (.bool x)) := by
  have hs : (wx.setCell ⟨g, k, none⟩ (.bool x)).heap.size = wx.heap.size := by simp [World.setCell]
  have ho : ∀ b o, (b, o) ≠ (g, k) → (wx.setCell ⟨g, k, none⟩ (.bool x)).cell? ⟨b, o, none⟩ = wx.cell? ⟨b, o, none⟩ := fun b o hne =>
    World.cell?_setCell_other _ _ _ _ (fun e => hne (by injection e with e1 e2; rw [e1, e2]))
  refine ⟨fun j hj => ?_, fun j hj => by rw [World.frozen?_setCell]; exact h.froz j hj, ?_, ?_, h.bel.setCell (p := ⟨g, k, none⟩) h.geg _, by rw [hs]; exact h.ltg, by rw [hs]; exact h.ltf, h.geg, h.ne⟩
  · by_cases e : j = k
    · subst e
      obtain ⟨b, hb⟩ := h.bools j hj
      exact ⟨x, World.cell?_setCell_same _ _ _ hb⟩
    · obtain ⟨b, hb⟩ := h.bools j hj
      exact ⟨b, (ho _ _ (by simp; omega)).trans hb⟩
  · rw [ho _ _ (by have := h.ne; simp; omega)]; exact h.f1
  · rw [ho _ _ (by have := h.ne; simp; omega)]; exact h.f5
theorem info4 : (Try.prog.info? 4).map (fun i => (i.zero, i.size, i.bytes)) = some (some (.bool false), 1, 1) := by kernel_rfl
set_option maxHeartbeats 4000000 in
set_option maxRecDepth 100000 in
theorem plain_calls (v0 v2 v3 v4 : Value) (la : Option Addr) (n lc : Nat) (lf : Nat → Int) (ba : Option Addr) (bn bc : Nat) (W : World) (hn : n ≤ 100) (hbn : bn ≤ 9223372036854775807)
    (hl : 0 < n → ∃ b o, la = some ⟨b, o, none⟩ ∧ ∀ j, j < n → W.cell? ⟨b, o + j, none⟩ = some (.int .i64 (lf j))) (hB : BlocksAt W 7 ba bn) :
    Calls Try.prog 8 #[.agg #[v0, .slice la n lc, v2, v3, v4, .slice ba bn bc]] W fun e w' => ∃ g fb, e = .returned (.slice (some ⟨g, 0, none⟩) n n) ∧ PS W g fb n (.slice la n lc) (.slice ba bn bc) w' := by
  have hmk := run_make_row' (P := Try.prog) 35 4 (.bool false) 1 Try.underlying35 info4 rfl .i64 .i64 n (by omega) (by omega)
  go_enter Try.func8, Try.ntmps8
  go_wp2
  have hS0 : PS W (W.heap.size + 1) W.heap.size n (.slice la n lc) (.slice ba bn bc) ((W.alloc (.cells #[v0, .slice la n lc, v2, v3, v4, .slice ba bn bc] 30)).alloc (.cells (madeCells #[.bool false] n) 4)) := by
    have e1 : (W.alloc (.cells #[v0, .slice la n lc, v2, v3, v4, .slice ba bn bc] 30)).heap.size = W.heap.size + 1 := by simp
    obtain ⟨c, q1, q2, q3⟩ := World.rowIs_made (W.alloc (.cells #[v0, .slice la n lc, v2, v3, v4, .slice ba bn bc] 30)) (.bool false) n 4
    rw [e1] at q1
    have q4 : ((W.alloc (.cells #[v0, .slice la n lc, v2, v3, v4, .slice ba bn bc] 30)).alloc (.cells (madeCells #[.bool false] n) 4)).heap[W.heap.size]? = some (.cells #[v0, .slice la n lc, v2, v3, v4, .slice ba bn bc] 30 (0, 0)) :=
      (Below.heap_alloc _ _ _ (by rw [e1]; omega)).trans (heap_alloc_new W _)
    refine ⟨fun k hk => ⟨false, ?_⟩, fun k hk => ?_, ?_, ?_, ((Below.refl _ _).alloc (Nat.le_refl _) _).alloc (by rw [e1]; omega) _, by simp, by simp; omega, by omega, by omega⟩
    · rw [cell_of_row _ _ k _ 4 (0, 0) q1]; exact q3 k hk
    · exact frozen_of_row _ _ k _ 4 q1
    · rw [cell_of_row _ _ 1 _ 30 (0, 0) q4]; rfl
    · rw [cell_of_row _ _ 5 _ 30 (0, 0) q4]; rfl
  obtain ⟨gb, hgb⟩ : ∃ x, W.heap.size + 1 = x := ⟨_, rfl⟩
  obtain ⟨fb, hfb⟩ : ∃ x, W.heap.size = x := ⟨_, rfl⟩
  rw [hgb] at hS0 ⊢
  rw [hfb] at hS0 ⊢
  obtain ⟨wA, hwA⟩ : ∃ x, ((W.alloc (.cells #[v0, .slice la n lc, v2, v3, v4, .slice ba bn bc] 30)).alloc (.cells (madeCells #[.bool false] n) 4)) = x := ⟨_, rfl⟩
  rw [hwA] at hS0 ⊢
  clear hmk hwA hgb hfb
  have HL := Lib.hid hl
  clear hl
  go_loopg [17] n (fun g tk wx => ∃ k : Nat, k ≤ n ∧ g = n - k ∧ tk = .int .i64 k ∧ PS W gb fb n (.slice la n lc) (.slice ba bn bc) wx)
  case atStart => exact ⟨0, by omega, rfl, rfl, hS0⟩
  case round =>
    clear hS0
    obtain ⟨k, hk, rfl, rfl, hS⟩ := hrel
    by_cases hlt : k < n
    · obtain ⟨lb, lo, rfl, hlc⟩ := HL.out (by omega)
      have k1 := (hS.bel.cell (p := ⟨lb, lo + k, none⟩) (cell_lt (hlc k hlt))).trans (hlc k hlt)
      obtain ⟨b, hb⟩ := hS.bools k hlt
      have hfr := hS.froz k hlt
      clear hlc HL
      go_wp2
      go_roundg (n - (k + 1))
      case measure => omega
      case rel => exact ⟨k + 1, by omega, rfl, by go_num, hS.set k _⟩
    · obtain rfl : k = n := by omega
      have q1 := hS.f1
      have q5 := hS.f5
      go_wp2
      go_loopg [31] bn (fun g tj wx => ∃ j : Nat, j ≤ bn ∧ g = bn - j ∧ tj = .int .i64 j ∧ PS W gb fb k (.slice la k lc) (.slice ba bn bc) wx)
      case atStart => exact ⟨0, by omega, rfl, rfl, hS⟩
      case round =>
        clear hS q1 q5
        obtain ⟨j, hj, rfl, rfl, hS⟩ := hrel
        have q5 := hS.f5
        by_cases hjl : j < bn
        · obtain ⟨bb, bo, rfl, hbl⟩ := hB.is (by omega)
          obtain ⟨lo, ln, llc, kc, hln, hI⟩ := hbl j hjl
          have k1 := (hS.bel.cell (p := ⟨bb, bo + j * 7, none⟩) (cell_lt kc)).trans kc
          go_wp2
          go_loopg [41] ln (fun g ti wx => ∃ i : Nat, i ≤ ln ∧ g = ln - i ∧ ti = .int .i64 i ∧ PS W gb fb k (.slice la k lc) (.slice (some ⟨bb, bo, none⟩) bn bc) wx)
          case atStart => exact ⟨0, by omega, rfl, rfl, hS⟩
          case round =>
            clear hS q5 k1
            obtain ⟨i, hi, rfl, rfl, hS⟩ := hrel
            have q5 := hS.f5
            have k1 := (hS.bel.cell (p := ⟨bb, bo + j * 7, none⟩) (cell_lt kc)).trans kc
            by_cases hil : i < ln
            · obtain ⟨ib, io, rfl, hii⟩ := hI.is (by omega)
              obtain ⟨⟨op, hop⟩, hpp, hpq⟩ := hii i hil
              have k2 := (hS.bel.cell (p := ⟨ib, io + i * 18, none⟩) (cell_lt hop)).trans hop
              go_wp2_with (go_at_call 10; refine (places_calls ib (io + i * 18) op _ k2).mono ?_; rintro e w2 ⟨go, m, mc, rfl, hm2, hb2, hpl⟩)
              have hgs := hS.ltg
              have hS2 := hS.below hb2
              have hpl2 : ∀ z, z < m → ∃ g q, go = some ⟨g, 0, none⟩ ∧ (q = io + i * 18 + 6 ∨ q = io + i * 18 + 8) ∧ w2.cell? ⟨g, z, none⟩ = some (.pointer (some ⟨ib, q, none⟩)) ∧ g ≠ gb := fun z hz => by
                obtain ⟨g, q, e1, e2, e3, e4⟩ := hpl z hz
                exact ⟨g, q, e1, e2, e3, by omega⟩
              clear hpl hS hb2 k2 k1 q5 hgs
              go_loopg [54] m (fun g tz wx => ∃ z : Nat, z ≤ m ∧ g = m - z ∧ tz = .int .i64 z ∧ PS W gb fb k (.slice la k lc) (.slice (some ⟨bb, bo, none⟩) bn bc) wx ∧ ∀ z, z < m → ∃ g q, go = some ⟨g, 0, none⟩ ∧ (q = io + i * 18 + 6 ∨ q = io + i * 18 + 8) ∧ wx.cell? ⟨g, z, none⟩ = some (.pointer (some ⟨ib, q, none⟩)) ∧ g ≠ gb)
              case atStart => exact ⟨0, by omega, rfl, rfl, hS2, hpl2⟩
              case round =>
                clear hS2 hpl2
                obtain ⟨z, hz, rfl, rfl, hS, hpl⟩ := hrel
                by_cases hzm : z < m
                · obtain ⟨g, q, rfl, hq, kp, hg⟩ := hpl z hzm
                  have HPL := Lib.hid hpl
                  have hpa : PlaceAt W ib q := by
                    rcases hq with rfl | rfl
                    · exact hpp
                    · exact hpq
                  obtain ⟨l, so, sn, sc, p1, p2, p3⟩ := hpa.is
                  have k1 := (hS.bel.cell (p := ⟨ib, q, none⟩) (cell_lt p1)).trans p1
                  have k2 := (hS.bel.cell (p := ⟨ib, q + 1, none⟩) (cell_lt p2)).trans p2
                  clear p1 p2 hpa hq hpl
                  by_cases hs0 : 0 < sn
                  · obtain ⟨b', o', kd, rfl, p4⟩ := p3 hs0
                    have k3 := (hS.bel.cell (p := ⟨b', o', none⟩) (cell_lt p4)).trans p4
                    have e0 : ((sn : Int) == 0) = false := by simp; omega
                    clear p3 p4
                    cases ek : (kd != 3) with
                    | true =>
                      by_cases hl0 : 0 ≤ l
                      · obtain ⟨t, rfl⟩ : ∃ t : Nat, l = t := ⟨l.toNat, by omega⟩
                        by_cases hln : t < k
                        · obtain ⟨b, hb⟩ := hS.bools t hln
                          have hfr := hS.froz t hln
                          go_wp2
                          go_roundg (m - (z + 1))
                          case measure => omega
                          case rel => exact ⟨z + 1, by omega, rfl, by go_num, hS.set t false, fun y hy => by obtain ⟨g, q, e1, e2, e3, e4⟩ := HPL.out y hy; exact ⟨g, q, e1, e2, (World.cell?_setCell_other _ _ _ _ (fun e => by injection e with e1 e2; omega)).trans e3, e4⟩⟩
                        · have hln' : decide ((t : Int) < (k : Int)) = false := by simp; omega
                          go_wp2
                          go_roundg (m - (z + 1))
                          case measure => omega
                          case rel => exact ⟨z + 1, by omega, rfl, by go_num, hS, HPL.out⟩
                      · have hl0' : decide (0 ≤ l) = false := by simp; omega
                        go_wp2
                        go_roundg (m - (z + 1))
                        case measure => omega
                        case rel => exact ⟨z + 1, by omega, rfl, by go_num, hS, HPL.out⟩
                    | false =>
                      go_wp2
                      go_roundg (m - (z + 1))
                      case measure => omega
                      case rel => exact ⟨z + 1, by omega, rfl, by go_num, hS, HPL.out⟩
                  · obtain rfl : sn = 0 := by omega
                    clear p3
                    by_cases hl0 : 0 ≤ l
                    · obtain ⟨t, rfl⟩ : ∃ t : Nat, l = t := ⟨l.toNat, by omega⟩
                      by_cases hln : t < k
                      · obtain ⟨b, hb⟩ := hS.bools t hln
                        have hfr := hS.froz t hln
                        go_wp2
                        go_roundg (m - (z + 1))
                        case measure => omega
                        case rel => exact ⟨z + 1, by omega, rfl, by go_num, hS.set t false, fun y hy => by obtain ⟨g, q, e1, e2, e3, e4⟩ := HPL.out y hy; exact ⟨g, q, e1, e2, (World.cell?_setCell_other _ _ _ _ (fun e => by injection e with e1 e2; omega)).trans e3, e4⟩⟩
                      · have hln' : decide ((t : Int) < (k : Int)) = false := by simp; omega
                        go_wp2
                        go_roundg (m - (z + 1))
                        case measure => omega
                        case rel => exact ⟨z + 1, by omega, rfl, by go_num, hS, HPL.out⟩
                    · have hl0' : decide (0 ≤ l) = false := by simp; omega
                      go_wp2
                      go_roundg (m - (z + 1))
                      case measure => omega
                      case rel => exact ⟨z + 1, by omega, rfl, by go_num, hS, HPL.out⟩
                · obtain rfl : z = m := by omega
                  go_wp2
                  go_roundg (ln - (i + 1))
                  case measure => omega
                  case rel => exact ⟨i + 1, by omega, rfl, by go_num, hS⟩
            · obtain rfl : i = ln := by omega
              go_wp2
              go_roundg (bn - (j + 1))
              case measure => omega
              case rel => exact ⟨j + 1, by omega, rfl, by go_num, hS⟩
        · obtain rfl : j = bn := by omega
          go_wp2
          go_ret
          exact ⟨gb, fb, rfl, hS⟩
end Go.Proofs.Ytfgbhpfdcekmjaa.W
