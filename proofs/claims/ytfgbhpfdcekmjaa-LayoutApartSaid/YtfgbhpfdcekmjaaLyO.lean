/- A function in the middle form that came in: its locals, its blocks. -/
import Derived.Test.YtfgbhpfdcekmjaaLyP
import Derived.ProofKit
import Derived.OpenShut
import Derived.ChangeSlices
import Derived.Deep.Slices
namespace Go.Proofs.Ytfgbhpfdcekmjaa.W
open Go Go.RowKit Go.Proofs Go.ChangeShapes Go.WideShapes Go.ChangeAt Go.Deep
set_option linter.unusedVariables false
theorem cells3 : Try.prog.cellsOf 3 = 1 := by kernel_rfl
theorem cells27 : Try.prog.cellsOf 27 = 1 := by kernel_rfl
theorem cells28 : Try.prog.cellsOf 28 = 1 := by kernel_rfl
theorem cells30 : Try.prog.cellsOf 30 = 6 := by kernel_rfl
theorem cells38 : Try.prog.cellsOf 38 = 1 := by kernel_rfl
theorem cells45 : Try.prog.cellsOf 45 = 7 := by kernel_rfl
theorem cells49 : Try.prog.cellsOf 49 = 1 := by kernel_rfl
theorem cells51 : Try.prog.cellsOf 51 = 2 := by kernel_rfl
theorem cells56 : Try.prog.cellsOf 56 = 18 := by kernel_rfl
theorem cells59 : Try.prog.cellsOf 59 = 3 := by kernel_rfl
section
variable {H : Type} {enc : TypeId × Value → H} {W : World}
theorem spot_none {a : Addr} {v : Value} (h : W.cell? (a.add 0) = some v) : ∃ b o, a = ⟨b, o, none⟩ := by
  obtain ⟨b, o, spot⟩ := a
  have hspot : spot = none := by simpa [Addr.add] using World.cell?_spot h
  subst hspot
  exact ⟨b, o, rfl⟩
theorem nums_cells {fuel : Nat} {c : Value} {x : DataW H × List MemPlace} (h : DataW.trod enc Try.prog W 0 (fun _ => true) true fuel 27 [c] = some x) :
    ∃ la n lc, ∃ lf : Nat → Int, c = .slice la n lc ∧ n ≤ 9223372036854775807 ∧ (0 < n → ∃ b o, la = some ⟨b, o, none⟩ ∧ ∀ j, j < n → W.cell? ⟨b, o + j, none⟩ = some (.int .i64 (lf j))) := by
  rcases open_ints Try.underlying27 Try.underlying3 cells3 h with ⟨hcs, hx⟩ | ⟨a, n, c', zs, hcs, _, hl, hmx, hz, hx, hcell, hwz⟩
  · simp at hcs
    exact ⟨none, 0, 0, fun _ => 0, hcs, by omega, fun h => absurd h (by omega)⟩
  · simp at hcs
    simp only [if_true] at hz
    refine ⟨some a, n, c', fun j => zs.getD j 0, hcs, by unfold maxLen at hmx; omega, fun hn => ?_⟩
    obtain ⟨b, o, rfl⟩ := spot_none (hcell 0 (by omega))
    refine ⟨b, o, rfl, fun j hj => ?_⟩
    have := hcell j (by omega)
    rw [Addr.add_lit] at this
    exact this
theorem step_cells {fuel : Nat} {cs : List Value} {x : DataW H × List MemPlace} (hlen : cs.length = 3) (h : DataW.trod enc Try.prog W 0 (fun _ => true) true fuel 59 cs = some x) : ∃ kd : Int, cs[0]? = some (.int .i64 kd) := by
  obtain ⟨xs, k, rfl, hxy, _, hxl, hf⟩ := DataW.trod_struct Try.underlying59 h
  have hxl3 : xs.length = 3 := hxl
  match xs, hxl3, cs, hlen with
  | [y0, y1, y2], _, [v0, v1, v2], _ =>
    have g0 := hf 0 _ rfl
    simp [cells3] at g0
    obtain ⟨a, e0, _⟩ := DataW.trod_int Try.underlying3 g0
    simp at e0
    exact ⟨a, by simp [e0]⟩
theorem place_cells {fuel : Nat} {p0 p1 : Value} {x : DataW H × List MemPlace} (h : DataW.trod enc Try.prog W 0 (fun _ => true) true fuel 51 [p0, p1] = some x) :
    ∃ (l : Int) (so : Option Addr) (sn sc : Nat), p0 = .int .i64 l ∧ p1 = .slice so sn sc ∧ (0 < sn → ∃ b' o', ∃ kd : Int, so = some ⟨b', o', none⟩ ∧ W.cell? ⟨b', o', none⟩ = some (.int .i64 kd)) := by
  obtain ⟨xs, k, rfl, hxy, _, hxl, hf⟩ := DataW.trod_struct Try.underlying51 h
  have hxl2 : xs.length = 2 := hxl
  match xs, hxl2 with
  | [y0, y1], _ =>
    have g0 := hf 0 _ rfl
    have g1 := hf 1 _ rfl
    simp [cells3, cells49] at g0 g1
    obtain ⟨a, e0, _⟩ := DataW.trod_int Try.underlying3 g0
    simp at e0
    rcases open_slice Try.underlying49 g1 with ⟨hcs, hx⟩ | ⟨ad, len, cap, m, k2, Dd, Pl, hcs, _, hl, _, hm, hx, hel⟩
    · simp at hcs
      exact ⟨a, none, 0, 0, e0, hcs, fun h => absurd h (by omega)⟩
    · simp at hcs
      simp only [if_true] at hm
      refine ⟨a, some ad, len, cap, e0, hcs, fun hn => ?_⟩
      obtain ⟨cs, h1, h2⟩ := hel 0 (by omega)
      rw [cells59] at h1
      obtain ⟨_, hlen, hcell⟩ := World.cells?_some h1
      obtain ⟨kd, hkd⟩ := step_cells hlen h2
      have e := hcell 0 (by omega)
      rw [hkd, add_add] at e
      obtain ⟨b, o, rfl⟩ := spot_none (show W.cell? (ad.add 0) = _ from e)
      rw [Addr.add_lit] at e
      exact ⟨b, o, kd, rfl, by simpa using e⟩
theorem instr_cells {fuel : Nat} {cs : List Value} {x : DataW H × List MemPlace} (hlen : cs.length = 18) (h : DataW.trod enc Try.prog W 0 (fun _ => true) true fuel 56 cs = some x) :
    (∃ op : Int, cs[0]? = some (.int .i64 op)) ∧ (∃ k p0 p1 y, cs[6]? = some p0 ∧ cs[7]? = some p1 ∧ DataW.trod enc Try.prog W 0 (fun _ => true) true k 51 [p0, p1] = some y) ∧ (∃ k p0 p1 y, cs[8]? = some p0 ∧ cs[9]? = some p1 ∧ DataW.trod enc Try.prog W 0 (fun _ => true) true k 51 [p0, p1] = some y) := by
  obtain ⟨xs, k, rfl, hxy, _, hxl, hf⟩ := DataW.trod_struct Try.underlying56 h
  have hxl10 : xs.length = 11 := hxl
  match xs, hxl10, cs, hlen with
  | [y0, y1, y2, y3, y4, y5, y6, y7, y8, y9, y10], _, [c0, c1, c2, c3, c4, c5, c6, c7, c8, c9, c10, c11, c12, c13, c14, c15, c16, c17], _ =>
    have g0 := hf 0 _ rfl
    have g4 := hf 4 _ rfl
    have g5 := hf 5 _ rfl
    simp [cells3, cells51] at g0 g4 g5
    obtain ⟨a, e0, _⟩ := DataW.trod_int Try.underlying3 g0
    simp at e0
    exact ⟨⟨a, by simp [e0]⟩, ⟨k, c6, c7, _, rfl, rfl, g4⟩, ⟨k, c8, c9, _, rfl, rfl, g5⟩⟩
theorem instrs_cells {fuel : Nat} {c : Value} {x : DataW H × List MemPlace} (h : DataW.trod enc Try.prog W 0 (fun _ => true) true fuel 38 [c] = some x) :
    ∃ lo ln lc, c = .slice lo ln lc ∧ ln ≤ 9223372036854775807 ∧ InstrsAt W lo ln := by
  rcases open_slice Try.underlying38 h with ⟨hcs, hx⟩ | ⟨ad, len, cap, m, k2, Dd, Pl, hcs, _, hl, hmx, hm, hx, hel⟩
  · simp at hcs
    exact ⟨none, 0, 0, hcs, by omega, ⟨fun h => absurd h (by omega)⟩⟩
  · simp at hcs
    simp only [if_true] at hm
    refine ⟨some ad, len, cap, hcs, by unfold maxLen at hmx; omega, ⟨fun hn => ?_⟩⟩
    have each : ∀ i, i < len → (∃ op : Int, W.cell? (ad.add (i * 18)) = some (.int .i64 op)) ∧ (∃ k p0 p1 y, W.cell? (ad.add (i * 18 + 6)) = some p0 ∧ W.cell? (ad.add (i * 18 + 7)) = some p1 ∧ DataW.trod enc Try.prog W 0 (fun _ => true) true k 51 [p0, p1] = some y) ∧ (∃ k p0 p1 y, W.cell? (ad.add (i * 18 + 8)) = some p0 ∧ W.cell? (ad.add (i * 18 + 9)) = some p1 ∧ DataW.trod enc Try.prog W 0 (fun _ => true) true k 51 [p0, p1] = some y) := by
      intro i hi
      obtain ⟨cs, h1, h2⟩ := hel i (by omega)
      rw [cells56] at h1
      obtain ⟨_, hlen, hcell⟩ := World.cells?_some h1
      obtain ⟨⟨op, r0⟩, ⟨k1, p0, p1, y, r1, r2, r3⟩, ⟨k3, q0, q1, y2, r4, r5, r6⟩⟩ := instr_cells hlen h2
      have e0 := hcell 0 (by omega)
      have e6 := hcell 6 (by omega)
      have e7 := hcell 7 (by omega)
      have e8 := hcell 8 (by omega)
      have e9 := hcell 9 (by omega)
      rw [add_add] at e0 e6 e7 e8 e9
      exact ⟨⟨op, by simpa using e0.trans r0⟩, ⟨k1, p0, p1, y, e6.trans r1, e7.trans r2, r3⟩, ⟨k3, q0, q1, y2, e8.trans r4, e9.trans r5, r6⟩⟩
    obtain ⟨⟨op0, ho⟩, _⟩ := each 0 hn
    obtain ⟨b, o, rfl⟩ := spot_none (show W.cell? (ad.add 0) = _ from by simpa using ho)
    refine ⟨b, o, rfl, fun i hi => ?_⟩
    obtain ⟨⟨op, r0⟩, ⟨k1, p0, p1, y, r1, r2, r3⟩, ⟨k3, q0, q1, y2, r4, r5, r6⟩⟩ := each i hi
    rw [Addr.add_lit] at r0 r1 r2 r4 r5
    obtain ⟨l, so, sn, sc, rfl, rfl, z1⟩ := place_cells r3
    obtain ⟨l2, so2, sn2, sc2, rfl, rfl, z2⟩ := place_cells r6
    exact ⟨⟨op, r0⟩, ⟨l, so, sn, sc, by rw [Nat.add_assoc]; exact r1, by rw [Nat.add_assoc, Nat.add_assoc]; exact r2, z1⟩, ⟨l2, so2, sn2, sc2, by rw [Nat.add_assoc]; exact r4, by rw [Nat.add_assoc, Nat.add_assoc]; exact r5, z2⟩⟩
theorem blocks_cells {fuel : Nat} {c : Value} {x : DataW H × List MemPlace} (h : DataW.trod enc Try.prog W 0 (fun _ => true) true fuel 28 [c] = some x) :
    ∃ ba bn bc, c = .slice ba bn bc ∧ bn ≤ 9223372036854775807 ∧ BlocksAt W 7 ba bn := by
  rcases open_slice Try.underlying28 h with ⟨hcs, hx⟩ | ⟨ad, len, cap, m, k2, Dd, Pl, hcs, _, hl, hmx, hm, hx, hel⟩
  · simp at hcs
    exact ⟨none, 0, 0, hcs, by omega, ⟨fun h => absurd h (by omega)⟩⟩
  · simp at hcs
    simp only [if_true] at hm
    refine ⟨some ad, len, cap, hcs, by unfold maxLen at hmx; omega, ⟨fun hn => ?_⟩⟩
    have each : ∀ i, i < len → ∃ lo ln lc, W.cell? (ad.add (i * 7)) = some (.slice lo ln lc) ∧ ln ≤ 9223372036854775807 ∧ InstrsAt W lo ln := by
      intro i hi
      obtain ⟨cs, h1, h2⟩ := hel i (by omega)
      rw [cells45] at h1
      obtain ⟨_, hlen, hcell⟩ := World.cells?_some h1
      obtain ⟨xs, k, rfl, hxy, _, hxl, hf⟩ := DataW.trod_struct Try.underlying45 h2
      have hxl2 : xs.length = 2 := hxl
      match xs, hxl2, cs, hlen with
      | [y0, y1], _, [c0, c1, c2, c3, c4, c5, c6], _ =>
        have g0 := hf 0 _ rfl
        simp [cells38] at g0
        obtain ⟨lo, ln, lc, rfl, h3, h4⟩ := instrs_cells g0
        have e0 := hcell 0 (by omega)
        rw [add_add] at e0
        exact ⟨lo, ln, lc, by simpa using e0, h3, h4⟩
    obtain ⟨_, _, _, ho, _⟩ := each 0 hn
    obtain ⟨b, o, rfl⟩ := spot_none (show W.cell? (ad.add 0) = _ from by simpa using ho)
    refine ⟨b, o, rfl, fun i hi => ?_⟩
    obtain ⟨lo, ln, lc, r0, r1, r2⟩ := each i hi
    rw [Addr.add_lit] at r0
    exact ⟨lo, ln, lc, r0, r1, r2⟩
theorem open_mir {base : Nat} {v : Value} {d : DataW H} {ps : List MemPlace} (hv : Value.okWide Try.prog W .any base 30 v) (h : DataW.Trod enc Try.prog W 0 (fun _ => true) true 30 v d ps) :
    ∃ v0 v2 v3 v4 la n lc, ∃ lf : Nat → Int, ∃ ba bn bc, v = .agg #[v0, .slice la n lc, v2, v3, v4, .slice ba bn bc] ∧ n ≤ 9223372036854775807 ∧ bn ≤ 9223372036854775807 ∧ (0 < n → ∃ b o, la = some ⟨b, o, none⟩ ∧ ∀ j, j < n → W.cell? ⟨b, o + j, none⟩ = some (.int .i64 (lf j))) ∧ BlocksAt W 7 ba bn := by
  obtain ⟨cs, rfl, hsz⟩ := okWide_struct Try.underlying30 hv
  obtain ⟨fu, hf0⟩ := h
  obtain ⟨xs, k, rfl, hxy, _, hxl, hf⟩ := DataW.trod_struct Try.underlying30 hf0
  have hxl6 : xs.length = 6 := hxl
  rw [cells30] at hsz
  obtain ⟨l⟩ := cs
  have hsz' : l.length = 6 := hsz
  match xs, hxl6, l, hsz' with
  | [y0, y1, y2, y3, y4, y5], _, [c0, c1, c2, c3, c4, c5], _ =>
    have g1 := hf 1 _ rfl
    have g5 := hf 5 _ rfl
    simp [Value.cells, cells27, cells28] at g1 g5
    obtain ⟨la, n, lc, lf, rfl, q1, q2⟩ := nums_cells g1
    obtain ⟨ba, bn, bc, rfl, q3, q4⟩ := blocks_cells g5
    exact ⟨c0, c2, c3, c4, la, n, lc, lf, ba, bn, bc, rfl, q1, q3, q2, q4⟩
end
end Go.Proofs.Ytfgbhpfdcekmjaa.W
