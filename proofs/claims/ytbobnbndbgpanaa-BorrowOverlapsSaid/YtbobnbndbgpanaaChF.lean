/- far: how long a chain is. -/
import Derived.Test.YtbobnbndbgpanaaChA
import Derived.Lib.Hide
import Derived.RegionTactic
import Derived.Deep.LoopGhost
import Derived.Deep.DeepCutAuto
namespace Go.Proofs.Ytbobnbndbgpanaa.W
open Go Go.RowKit Go.Proofs
set_option linter.unusedVariables false
set_option linter.unusedSimpArgs false
theorem Ch.ten {W : World} {cs : List Value} {l : List Nd} (h : Ch W cs l) : cs.length = 10 := by cases h <;> rfl
theorem cell_lt {W : World} {b o : Nat} {v : Value} (h : W.cell? ⟨b, o, none⟩ = some v) : b < W.heap.size := by
  by_cases q : b < W.heap.size
  · exact q
  · exfalso
    have e : W.heap[b]? = none := Array.getElem?_eq_none (by omega)
    simp [World.cell?, e] at h
theorem Ch.form {W : World} {cs : List Value} {l : List Nd} (h : Ch W cs l) : ∃ (kd nm : Int) (t : Tl) (ko : Option Addr) (kn kc : Nat), cs = [.int .i64 kd, .int .i64 t.x1, .int .i64 nm, .string t.s3, .slice ko kn kc, .slice t.a5 t.n5 t.k5, .int .i64 t.x6, .string t.s7, .int .i64 t.x8, .slice t.a9 t.n9 t.k9] := by
  cases h with
  | last kd nm t ko kc => exact ⟨kd, nm, t, ko, 0, kc, rfl⟩
  | more kd nm t b o nk kc => exact ⟨kd, nm, t, _, _, kc, rfl⟩
theorem Ch.pos {W : World} {cs : List Value} {l : List Nd} (h : Ch W cs l) : 0 < l.length := by cases h <;> simp
/-- A tree in its box. -/
structure InBox (W0 : World) (fb : Nat) (cs : List Value) (wx : World) : Prop where
  at' : wx.heap[fb]? = some (.cells cs.toArray 27 (0, 0))
  bel : Below W0.heap.size W0 wx
  ge : W0.heap.size ≤ fb
theorem InBox.cells {W0 wx : World} {fb : Nat} {c0 c1 c2 c3 c4 c5 c6 c7 c8 c9 : Value} (h : InBox W0 fb [c0, c1, c2, c3, c4, c5, c6, c7, c8, c9] wx) : wx.cell? ⟨fb, 0, none⟩ = some c0 ∧ wx.cell? ⟨fb, 1, none⟩ = some c1 ∧ wx.cell? ⟨fb, 2, none⟩ = some c2 ∧ wx.cell? ⟨fb, 3, none⟩ = some c3 ∧ wx.cell? ⟨fb, 4, none⟩ = some c4 ∧ wx.cell? ⟨fb, 5, none⟩ = some c5 ∧ wx.cell? ⟨fb, 6, none⟩ = some c6 ∧ wx.cell? ⟨fb, 7, none⟩ = some c7 ∧ wx.cell? ⟨fb, 8, none⟩ = some c8 ∧ wx.cell? ⟨fb, 9, none⟩ = some c9 := by
  refine ⟨?_, ?_, ?_, ?_, ?_, ?_, ?_, ?_, ?_, ?_⟩ <;> (rw [cell_of_row _ _ _ _ 27 (0, 0) h.at']; rfl)
theorem InBox.put {W0 wx : World} {fb : Nat} {c0 c1 c2 c3 c4 c5 c6 c7 c8 c9 : Value} (h : InBox W0 fb [c0, c1, c2, c3, c4, c5, c6, c7, c8, c9] wx) (v0 v1 v2 v3 v4 v5 v6 v7 v8 v9 : Value) : InBox W0 fb [v0, v1, v2, v3, v4, v5, v6, v7, v8, v9] ((((((((((wx.setCell ⟨fb, 0, none⟩ v0).setCell ⟨fb, 1, none⟩ v1).setCell ⟨fb, 2, none⟩ v2).setCell ⟨fb, 3, none⟩ v3).setCell ⟨fb, 4, none⟩ v4).setCell ⟨fb, 5, none⟩ v5).setCell ⟨fb, 6, none⟩ v6).setCell ⟨fb, 7, none⟩ v7).setCell ⟨fb, 8, none⟩ v8).setCell ⟨fb, 9, none⟩ v9) := by
  refine ⟨?_, ?_, h.ge⟩
  · have e0 : (wx.setCell ⟨fb, 0, none⟩ v0).heap[fb]? = some (.cells #[v0, c1, c2, c3, c4, c5, c6, c7, c8, c9] 27 (0, 0)) := heap_setCell_same _ fb 0 _ 27 v0 h.at'
    have e1 : ((wx.setCell ⟨fb, 0, none⟩ v0).setCell ⟨fb, 1, none⟩ v1).heap[fb]? = some (.cells #[v0, v1, c2, c3, c4, c5, c6, c7, c8, c9] 27 (0, 0)) := heap_setCell_same _ fb 1 _ 27 v1 e0
    have e2 : (((wx.setCell ⟨fb, 0, none⟩ v0).setCell ⟨fb, 1, none⟩ v1).setCell ⟨fb, 2, none⟩ v2).heap[fb]? = some (.cells #[v0, v1, v2, c3, c4, c5, c6, c7, c8, c9] 27 (0, 0)) := heap_setCell_same _ fb 2 _ 27 v2 e1
    have e3 : ((((wx.setCell ⟨fb, 0, none⟩ v0).setCell ⟨fb, 1, none⟩ v1).setCell ⟨fb, 2, none⟩ v2).setCell ⟨fb, 3, none⟩ v3).heap[fb]? = some (.cells #[v0, v1, v2, v3, c4, c5, c6, c7, c8, c9] 27 (0, 0)) := heap_setCell_same _ fb 3 _ 27 v3 e2
    have e4 : (((((wx.setCell ⟨fb, 0, none⟩ v0).setCell ⟨fb, 1, none⟩ v1).setCell ⟨fb, 2, none⟩ v2).setCell ⟨fb, 3, none⟩ v3).setCell ⟨fb, 4, none⟩ v4).heap[fb]? = some (.cells #[v0, v1, v2, v3, v4, c5, c6, c7, c8, c9] 27 (0, 0)) := heap_setCell_same _ fb 4 _ 27 v4 e3
    have e5 : ((((((wx.setCell ⟨fb, 0, none⟩ v0).setCell ⟨fb, 1, none⟩ v1).setCell ⟨fb, 2, none⟩ v2).setCell ⟨fb, 3, none⟩ v3).setCell ⟨fb, 4, none⟩ v4).setCell ⟨fb, 5, none⟩ v5).heap[fb]? = some (.cells #[v0, v1, v2, v3, v4, v5, c6, c7, c8, c9] 27 (0, 0)) := heap_setCell_same _ fb 5 _ 27 v5 e4
    have e6 : (((((((wx.setCell ⟨fb, 0, none⟩ v0).setCell ⟨fb, 1, none⟩ v1).setCell ⟨fb, 2, none⟩ v2).setCell ⟨fb, 3, none⟩ v3).setCell ⟨fb, 4, none⟩ v4).setCell ⟨fb, 5, none⟩ v5).setCell ⟨fb, 6, none⟩ v6).heap[fb]? = some (.cells #[v0, v1, v2, v3, v4, v5, v6, c7, c8, c9] 27 (0, 0)) := heap_setCell_same _ fb 6 _ 27 v6 e5
    have e7 : ((((((((wx.setCell ⟨fb, 0, none⟩ v0).setCell ⟨fb, 1, none⟩ v1).setCell ⟨fb, 2, none⟩ v2).setCell ⟨fb, 3, none⟩ v3).setCell ⟨fb, 4, none⟩ v4).setCell ⟨fb, 5, none⟩ v5).setCell ⟨fb, 6, none⟩ v6).setCell ⟨fb, 7, none⟩ v7).heap[fb]? = some (.cells #[v0, v1, v2, v3, v4, v5, v6, v7, c8, c9] 27 (0, 0)) := heap_setCell_same _ fb 7 _ 27 v7 e6
    have e8 : (((((((((wx.setCell ⟨fb, 0, none⟩ v0).setCell ⟨fb, 1, none⟩ v1).setCell ⟨fb, 2, none⟩ v2).setCell ⟨fb, 3, none⟩ v3).setCell ⟨fb, 4, none⟩ v4).setCell ⟨fb, 5, none⟩ v5).setCell ⟨fb, 6, none⟩ v6).setCell ⟨fb, 7, none⟩ v7).setCell ⟨fb, 8, none⟩ v8).heap[fb]? = some (.cells #[v0, v1, v2, v3, v4, v5, v6, v7, v8, c9] 27 (0, 0)) := heap_setCell_same _ fb 8 _ 27 v8 e7
    have e9 : ((((((((((wx.setCell ⟨fb, 0, none⟩ v0).setCell ⟨fb, 1, none⟩ v1).setCell ⟨fb, 2, none⟩ v2).setCell ⟨fb, 3, none⟩ v3).setCell ⟨fb, 4, none⟩ v4).setCell ⟨fb, 5, none⟩ v5).setCell ⟨fb, 6, none⟩ v6).setCell ⟨fb, 7, none⟩ v7).setCell ⟨fb, 8, none⟩ v8).setCell ⟨fb, 9, none⟩ v9).heap[fb]? = some (.cells #[v0, v1, v2, v3, v4, v5, v6, v7, v8, v9] 27 (0, 0)) := heap_setCell_same _ fb 9 _ 27 v9 e8
    exact e9
  · exact ((((((((((h.bel.setCell (p := ⟨fb, 0, none⟩) h.ge _).setCell (p := ⟨fb, 1, none⟩) h.ge _).setCell (p := ⟨fb, 2, none⟩) h.ge _).setCell (p := ⟨fb, 3, none⟩) h.ge _).setCell (p := ⟨fb, 4, none⟩) h.ge _).setCell (p := ⟨fb, 5, none⟩) h.ge _).setCell (p := ⟨fb, 6, none⟩) h.ge _).setCell (p := ⟨fb, 7, none⟩) h.ge _).setCell (p := ⟨fb, 8, none⟩) h.ge _).setCell (p := ⟨fb, 9, none⟩) h.ge _)
theorem InBox.froz {W0 wx : World} {fb : Nat} {cs : List Value} (h : InBox W0 fb cs wx) (i : Nat) : wx.frozen? ⟨fb, i, none⟩ = false := frozen_of_row _ _ i _ 27 h.at'
theorem kid_cells {W0 wx : World} {b o : Nat} {c0 c1 c2 c3 c4 c5 c6 c7 c8 c9 : Value} (hb : Below W0.heap.size W0 wx) (hc : ∀ i, i < 10 → W0.cell? ⟨b, o + i, none⟩ = [c0, c1, c2, c3, c4, c5, c6, c7, c8, c9][i]?) : wx.cell? ⟨b, o, none⟩ = some c0 ∧ wx.cell? ⟨b, o + 1, none⟩ = some c1 ∧ wx.cell? ⟨b, o + 2, none⟩ = some c2 ∧ wx.cell? ⟨b, o + 3, none⟩ = some c3 ∧ wx.cell? ⟨b, o + 4, none⟩ = some c4 ∧ wx.cell? ⟨b, o + 5, none⟩ = some c5 ∧ wx.cell? ⟨b, o + 6, none⟩ = some c6 ∧ wx.cell? ⟨b, o + 7, none⟩ = some c7 ∧ wx.cell? ⟨b, o + 8, none⟩ = some c8 ∧ wx.cell? ⟨b, o + 9, none⟩ = some c9 := by
  have lt := cell_lt (hc 0 (by omega))
  have q : ∀ i, i < 10 → wx.cell? ⟨b, o + i, none⟩ = [c0, c1, c2, c3, c4, c5, c6, c7, c8, c9][i]? := fun i hi => (hb.cell (p := ⟨b, o + i, none⟩) lt).trans (hc i hi)
  exact ⟨q 0 (by omega), q 1 (by omega), q 2 (by omega), q 3 (by omega), q 4 (by omega), q 5 (by omega), q 6 (by omega), q 7 (by omega), q 8 (by omega), q 9 (by omega)⟩
set_option maxHeartbeats 4000000 in
set_option maxRecDepth 100000 in
theorem far_calls (W : World) (cs : List Value) (l : List Nd) (h : Ch W cs l) :
    Calls Try.prog 5 #[.agg cs.toArray] W fun e w' => e = .returned (.int .i64 (min (l.length - 1) 200 : Nat)) ∧ Below W.heap.size W w' := by
  have hx : ∃ c0 c1 c2 c3 c4 c5 c6 c7 c8 c9, cs = [c0, c1, c2, c3, c4, c5, c6, c7, c8, c9] := by
    have := h.ten
    match cs, this with
    | [c0, c1, c2, c3, c4, c5, c6, c7, c8, c9], _ => exact ⟨c0, c1, c2, c3, c4, c5, c6, c7, c8, c9, rfl⟩
  obtain ⟨c0, c1, c2, c3, c4, c5, c6, c7, c8, c9, rfl⟩ := hx
  go_enter Try.func5, Try.ntmps5
  go_wp2
  have hb0 : InBox W W.heap.size [c0, c1, c2, c3, c4, c5, c6, c7, c8, c9] (W.alloc (.cells #[c0, c1, c2, c3, c4, c5, c6, c7, c8, c9] 27)) := ⟨heap_alloc_new W _, (Below.refl _ _).alloc (Nat.le_refl _) _, Nat.le_refl _⟩
  obtain ⟨fb, hfb⟩ : ∃ x, W.heap.size = x := ⟨_, rfl⟩
  obtain ⟨wA, hwA⟩ : ∃ x, W.alloc (.cells #[c0, c1, c2, c3, c4, c5, c6, c7, c8, c9] 27) = x := ⟨_, rfl⟩
  rw [hwA] at hb0 ⊢
  have hb1 : InBox W fb [c0, c1, c2, c3, c4, c5, c6, c7, c8, c9] wA := by rw [← hfb]; exact hb0
  rw [hfb]
  clear hb0 hwA hfb
  go_loopg [3] 200 (fun g tn wx => ∃ (n : Nat) (cs : List Value) (l' : List Nd), n ≤ 200 ∧ g = 200 - n ∧ tn = .int .i64 n ∧ Ch W cs l' ∧ n + l'.length = l.length ∧ InBox W fb cs wx)
  case atStart => exact ⟨0, _, l, by omega, rfl, rfl, h, by omega, hb1⟩
  case round =>
    clear hb1 h
    obtain ⟨n, cs, l', hn, rfl, rfl, hch, hlen, hB⟩ := hrel
    cases hch with
    | last kd nm t ko kc =>
      obtain ⟨a0, a1, a2, a3, a4, a5, a6, a7, a8, a9⟩ := hB.cells
      have hlen' : l.length = n + 1 := by simpa using hlen.symm
      have HE := Lib.hid hlen'
      clear hlen hlen'
      go_wp2
      go_ret
      refine ⟨?_, hB.bel⟩
      rw [HE.out]
      have : min (n + 1 - 1) 200 = n := by omega
      rw [this]
      rfl
    | more kd nm t b o nk kc k1 n1 cs' rest hlen' hc h2 hnk hch =>
      obtain ⟨a0, a1, a2, a3, a4, a5, a6, a7, a8, a9⟩ := hB.cells
      have hlen'' : l.length = n + (rest.length + 1) := by simpa using hlen.symm
      have HE := Lib.hid hlen''
      clear hlen hlen''
      by_cases hlt : n < 200
      · obtain ⟨kd', nm', t', ko', kn', kc', rfl⟩ := hch.form
        obtain ⟨b0, b1, b2, b3, b4, b5, b6, b7, b8, b9⟩ := kid_cells hB.bel hc
        have z0 := hB.froz 0
        have z1 := hB.froz 1
        have z2 := hB.froz 2
        have z3 := hB.froz 3
        have z4 := hB.froz 4
        have z5 := hB.froz 5
        have z6 := hB.froz 6
        have z7 := hB.froz 7
        have z8 := hB.froz 8
        have z9 := hB.froz 9
        have HC := Lib.hid hc
        have HN := Lib.hid h2
        clear hc h2
        go_wp2
        go_roundg (200 - (n + 1))
        case measure => omega
        case rel => exact ⟨n + 1, _, rest, by omega, rfl, by go_num, hch, by have := HE.out; omega, hB.put _ _ _ _ _ _ _ _ _ _⟩
      · obtain rfl : n = 200 := by omega
        go_wp2
        go_ret
        refine ⟨?_, hB.bel⟩
        rw [HE.out]
        have : min (200 + (rest.length + 1) - 1) 200 = 200 := by omega
        rw [this]
        rfl
end Go.Proofs.Ytbobnbndbgpanaa.W
