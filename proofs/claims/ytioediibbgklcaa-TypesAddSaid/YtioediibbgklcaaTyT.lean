/- Types and items that came in. -/
import Derived.Test.YtioediibbgklcaaTyX
namespace Go.Proofs.Ytioediibbgklcaa.W
open Go Go.RowKit Go.Proofs Go.ChangeShapes Go.WideShapes Go.ChangeAt Go.Deep
set_option linter.unusedVariables false
theorem cells4 : Try.prog.cellsOf 4 = 1 := by kernel_rfl
theorem cells9 : Try.prog.cellsOf 9 = 1 := by kernel_rfl
theorem cells24 : Try.prog.cellsOf 24 = 1 := by kernel_rfl
theorem cells26 : Try.prog.cellsOf 26 = 4 := by kernel_rfl
theorem cells28 : Try.prog.cellsOf 28 = 7 := by kernel_rfl
theorem cells29 : Try.prog.cellsOf 29 = 1 := by kernel_rfl
theorem cells30 : Try.prog.cellsOf 30 = 1 := by kernel_rfl
theorem cells31 : Try.prog.cellsOf 31 = 1 := by kernel_rfl
theorem cells33 : Try.prog.cellsOf 33 = 10 := by kernel_rfl
theorem cells35 : Try.prog.cellsOf 35 = 20 := by kernel_rfl
theorem cells48 : Try.prog.cellsOf 48 = 3 := by kernel_rfl
section
variable {H : Type} {enc : TypeId × Value → H} {W : World}
theorem spot_none {a : Addr} {v : Value} (h : W.cell? (a.add 0) = some v) : ∃ b o, a = ⟨b, o, none⟩ := by
  obtain ⟨b, o, spot⟩ := a
  have hspot : spot = none := by simpa [Addr.add] using World.cell?_spot h
  subst hspot
  exact ⟨b, o, rfl⟩
/-- A slice that came in: its elements' cells. -/
theorem row_open {t e : TypeId} {s : Nat} (ht : Try.prog.underlying t = some (.slice e)) (ce : Try.prog.cellsOf e = s) (hs : 0 < s) {fuel : Nat} {c : Value} {x : DataW H × List MemPlace} (h : DataW.trod enc Try.prog W 0 (fun _ => true) true fuel t [c] = some x) :
    ∃ a n cap b o, ∃ cs : Nat → List Value, c = .slice a n cap ∧ n ≤ 9223372036854775807 ∧ (0 < n → a = some ⟨b, o, none⟩) ∧ ∀ i, i < n → (cs i).length = s ∧ (∀ j, j < s → W.cell? ⟨b, o + i * s + j, none⟩ = (cs i)[j]?) ∧ ∃ m y, m < fuel ∧ DataW.trod enc Try.prog W 0 (fun _ => true) true m e (cs i) = some y := by
  rcases DataW.trod_slice ht h with ⟨hcs, _⟩ | ⟨a, len, cap, elems, rest, n, rfl, hcs, _, _, hl, hmx, hlen2, hel, _, _⟩
  · simp at hcs
    exact ⟨none, 0, 0, 0, 0, fun _ => [], hcs, by omega, by omega, fun i hi => absurd hi (by omega)⟩
  · simp at hcs
    have hmx' : len ≤ 9223372036854775807 := by unfold maxLen at hmx; omega
    have each : ∀ i, ∃ cs : List Value, i < len → cs.length = s ∧ (∀ j, j < s → W.cell? (a.add (i * s + j)) = cs[j]?) ∧ ∃ m y, m < n + 1 ∧ DataW.trod enc Try.prog W 0 (fun _ => true) true m e cs = some y := by
      intro i
      by_cases hi : i < len
      · have e0 := hel i (by omega)
        rw [List.getElem?_eq_getElem (by omega), ce] at e0
        obtain ⟨cs0, q1, q2⟩ := Option.bind_eq_some_iff.1 e0
        obtain ⟨_, hl0, hc0⟩ := World.cells?_some q1
        refine ⟨cs0, fun _ => ⟨hl0, fun j hj => ?_, n, _, by omega, q2⟩⟩
        have := hc0 j hj
        rw [add_add] at this
        exact this
      · exact ⟨[], fun h => absurd h hi⟩
    obtain ⟨cs, hcsf⟩ := Classical.axiomOfChoice each
    rcases Nat.eq_zero_or_pos len with h0 | h0
    · subst h0
      exact ⟨some a, 0, cap, 0, 0, cs, hcs, by omega, by omega, fun i hi => absurd hi (by omega)⟩
    · obtain ⟨hl0, hc0, _⟩ := hcsf 0 h0
      obtain ⟨b, o, rfl⟩ : ∃ b o, a = ⟨b, o, none⟩ := by
        have := hc0 0 hs
        rw [List.getElem?_eq_getElem (by omega)] at this
        exact spot_none (by simpa using this)
      refine ⟨some ⟨b, o, none⟩, len, cap, b, o, cs, hcs, hmx', fun _ => rfl, fun i hi => ?_⟩
      obtain ⟨h1, h2, h3⟩ := hcsf i hi
      refine ⟨h1, fun j hj => ?_, h3⟩
      have := h2 j hj
      rw [Addr.add_lit] at this
      rw [Nat.add_assoc]
      exact this
theorem type_fields {fuel : Nat} {cs : List Value} {x : DataW H × List MemPlace} (hlen : cs.length = 4) (h : DataW.trod enc Try.prog W 0 (fun _ => true) true fuel 26 cs = some x) :
    ∃ k kd nm n c3 y, fuel = k + 1 ∧ cs = [.int .i64 kd, .string nm, .int .i64 n, c3] ∧ DataW.trod enc Try.prog W 0 (fun _ => true) true k 24 [c3] = some y := by
  obtain ⟨xs, k, rfl, hxy, _, hxl, hf⟩ := DataW.trod_struct Try.underlying26 h
  have hxl4 : xs.length = 4 := hxl
  match xs, hxl4, cs, hlen with
  | [y0, y1, y2, y3], _, [c0, c1, c2, c3], _ =>
    have g0 := hf 0 _ rfl
    have g1 := hf 1 _ rfl
    have g2 := hf 2 _ rfl
    have g3 := hf 3 _ rfl
    simp [cells3, cells9, cells24] at g0 g1 g2 g3
    obtain ⟨a, e0, _⟩ := DataW.trod_int Try.underlying3 g0
    obtain ⟨b, e1, _⟩ := DataW.trod_string Try.underlying9 g1
    obtain ⟨c, e2, _⟩ := DataW.trod_int Try.underlying3 g2
    simp at e0 e1 e2
    subst e0 e1 e2
    exact ⟨k, a, b, c, c3, _, rfl, rfl, g3⟩
theorem type_of : ∀ (fuel : Nat) (cs : List Value) (x : DataW H × List MemPlace), cs.length = 4 → DataW.trod enc Try.prog W 0 (fun _ => true) true fuel 26 cs = some x → ∃ t, TyAt W cs t := by
  intro fuel
  induction fuel using Nat.strongRecOn with
  | _ fuel ih =>
    intro cs x hlen h
    obtain ⟨k, kd, nm, n, c3, y, rfl, rfl, h3⟩ := type_fields hlen h
    obtain ⟨a, len, cap, b, o, cf, rfl, hmx, ha, hel⟩ := row_open Try.underlying24 cells26 (by omega) h3
    have each : ∀ i, ∃ t : Ty, i < len → TyAt W (cf i) t := by
      intro i
      by_cases hi : i < len
      · obtain ⟨hl, _, m, y, hm, hy⟩ := hel i hi
        obtain ⟨t, ht⟩ := ih m (by omega) (cf i) y hl hy
        exact ⟨t, fun _ => ht⟩
      · exact ⟨.mk 0 nil0 0 [], fun h => absurd h hi⟩
    obtain ⟨tf, htf⟩ := Classical.axiomOfChoice each
    have hl : ((List.range len).map tf).length = len := by simp
    refine ⟨.mk kd nm n ((List.range len).map tf), ?_⟩
    have := TyAt.mk (W := W) kd nm n a cap ((List.range len).map tf) (by omega) b o (fun i j => ((cf i)[j]?).getD (.bool false)) (fun h => ha (by omega)) (fun i j hi hj => ?_) (fun i t hi => ?_)
    · rw [hl] at this; exact this
    · obtain ⟨h1, h2, _⟩ := hel i (by omega)
      rw [h2 j hj, List.getElem?_eq_getElem (by omega)]
      rfl
    · have hil : i < len := by have := (List.getElem?_eq_some_iff.1 hi).1; simpa using this
      obtain ⟨h1, _⟩ := hel i hil
      have h4 := htf i hil
      simp [hil] at hi
      subst hi
      match hcf : cf i, h1 with
      | [c0, c1, c2, c3'], _ =>
        rw [hcf] at h4
        exact h4
theorem list_of {α : Type} {P : Nat → α → Prop} {n : Nat} (d : α) (h : ∀ i, i < n → ∃ x, P i x) : ∃ l : List α, l.length = n ∧ ∀ i x, l[i]? = some x → P i x := by
  have each : ∀ i, ∃ x, i < n → P i x := fun i => by
    by_cases hi : i < n
    · obtain ⟨x, hx⟩ := h i hi
      exact ⟨x, fun _ => hx⟩
    · exact ⟨d, fun h => absurd h hi⟩
  obtain ⟨f, hf⟩ := Classical.axiomOfChoice each
  refine ⟨(List.range n).map f, by simp, fun i x hx => ?_⟩
  have hil : i < n := by have := (List.getElem?_eq_some_iff.1 hx).1; simpa using this
  simp [hil] at hx
  subst hx
  exact hf i hil
theorem types_of {fuel : Nat} {c : Value} {x : DataW H × List MemPlace} (h : DataW.trod enc Try.prog W 0 (fun _ => true) true fuel 24 [c] = some x) : ∃ a cap, ∃ ts : List Ty, c = .slice a ts.length cap ∧ ts.length ≤ 9223372036854775807 ∧ TysAt W a ts := by
  obtain ⟨a, len, cap, b, o, cf, rfl, hmx, ha, hel⟩ := row_open Try.underlying24 cells26 (by omega) h
  obtain ⟨ts, hl, hts⟩ := list_of (P := fun i t => TyAt W (cf i) t) (.mk 0 nil0 0 []) (fun i hi => by
    obtain ⟨h1, _, m, y, _, hy⟩ := hel i hi
    exact type_of m (cf i) y h1 hy)
  refine ⟨a, cap, ts, by rw [hl], by omega, fun i t hi => ?_⟩
  have hil : i < len := by have := (List.getElem?_eq_some_iff.1 hi).1; omega
  obtain ⟨h1, h2, _⟩ := hel i hil
  have h4 := hts i t hi
  match hcf : cf i, h1 with
  | [c0, c1, c2, c3], _ =>
    rw [hcf] at h2 h4
    have z0 := h2 0 (by omega)
    have z1 := h2 1 (by omega)
    have z2 := h2 2 (by omega)
    have z3 := h2 3 (by omega)
    exact ⟨b, o, c0, c1, c2, c3, ha (by omega), by simpa using z0, by simpa using z1, by simpa using z2, by simpa using z3, h4⟩
theorem slice_form {t e : TypeId} (ht : Try.prog.underlying t = some (.slice e)) {fuel : Nat} {c : Value} {x : DataW H × List MemPlace} (h : DataW.trod enc Try.prog W 0 (fun _ => true) true fuel t [c] = some x) : ∃ a n k, c = .slice a n k := by
  rcases DataW.trod_slice ht h with ⟨hcs, _⟩ | ⟨a, len, cap, _, _, n, _, hcs, _⟩
  · simp at hcs; exact ⟨_, _, _, hcs⟩
  · simp at hcs; exact ⟨_, _, _, hcs⟩
theorem type_cells {fuel : Nat} {c0 c1 c2 c3 : Value} {x : DataW H × List MemPlace} (h : DataW.trod enc Try.prog W 0 (fun _ => true) true fuel 26 [c0, c1, c2, c3] = some x) : ∃ x6 s7 x8 a9 n9 k9, c0 = .int .i64 x6 ∧ c1 = .string s7 ∧ c2 = .int .i64 x8 ∧ c3 = .slice a9 n9 k9 := by
  obtain ⟨k, kd, nm, n, c3', y, _, e, h3⟩ := type_fields (by rfl) h
  obtain ⟨a, n', k', rfl⟩ := slice_form Try.underlying24 h3
  simp at e
  obtain ⟨rfl, rfl, rfl, rfl⟩ := e
  exact ⟨_, _, _, _, _, _, rfl, rfl, rfl, rfl⟩
theorem params_of {fuel : Nat} {c : Value} {x : DataW H × List MemPlace} (h : DataW.trod enc Try.prog W 0 (fun _ => true) true fuel 29 [c] = some x) : ∃ a cap, ∃ ps : List (ByteArray × Ty), c = .slice a ps.length cap ∧ ps.length ≤ 9223372036854775807 ∧ PsAt W a ps := by
  obtain ⟨a, len, cap, b, o, cf, rfl, hmx, ha, hel⟩ := row_open Try.underlying29 cells28 (by omega) h
  obtain ⟨ps, hl, hps⟩ := list_of (P := fun i p => ∃ mu, ∃ x : Int, ∃ c0 c1 c2 c3, cf i = [.string p.1, .bool mu, c0, c1, c2, c3, .int .i64 x] ∧ TyAt W [c0, c1, c2, c3] p.2) ((nil0, .mk 0 nil0 0 []) : ByteArray × Ty) (fun i hi => by
    obtain ⟨h1, _, m, y, _, hy⟩ := hel i hi
    obtain ⟨xs, k, rfl, hxy, _, hxl, hf⟩ := DataW.trod_struct Try.underlying28 hy
    have hxl4 : xs.length = 4 := hxl
    match xs, hxl4, hcf : cf i, h1 with
    | [y0, y1, y2, y3], _, [d0, d1, d2, d3, d4, d5, d6], _ =>
      rw [hcf] at hf
      have g0 := hf 0 _ rfl
      have g1 := hf 1 _ rfl
      have g2 := hf 2 _ rfl
      have g3 := hf 3 _ rfl
      simp [cells3, cells9, cells4, cells26] at g0 g1 g2 g3
      obtain ⟨s0, e0, _⟩ := DataW.trod_string Try.underlying9 g0
      obtain ⟨b1, e1, _⟩ := DataW.trod_bool Try.underlying4 g1
      obtain ⟨t, ht⟩ := type_of _ _ _ rfl g2
      obtain ⟨x3, e3, _⟩ := DataW.trod_int Try.underlying3 g3
      simp at e0 e1 e3
      subst e0 e1 e3
      exact ⟨(s0, t), b1, x3, d2, d3, d4, d5, rfl, ht⟩)
  refine ⟨a, cap, ps, by rw [hl], by omega, fun i p hi => ?_⟩
  have hil : i < len := by have := (List.getElem?_eq_some_iff.1 hi).1; omega
  obtain ⟨h1, h2, _⟩ := hel i hil
  obtain ⟨mu, x, c0, c1, c2, c3, hcf, ht⟩ := hps i p hi
  rw [hcf] at h2
  have z0 := h2 0 (by omega)
  have z1 := h2 1 (by omega)
  have z2 := h2 2 (by omega)
  have z3 := h2 3 (by omega)
  have z4 := h2 4 (by omega)
  have z5 := h2 5 (by omega)
  have z6 := h2 6 (by omega)
  exact ⟨b, o, mu, x, c0, c1, c2, c3, ha (by omega), by simpa using z0, by simpa using z1, by simpa using z2, by simpa using z3, by simpa using z4, by simpa using z5, by simpa using z6, ht⟩
theorem variants_of {fuel : Nat} {c : Value} {x : DataW H × List MemPlace} (h : DataW.trod enc Try.prog W 0 (fun _ => true) true fuel 30 [c] = some x) : ∃ a cap, ∃ vs : List (ByteArray × List Ty), c = .slice a vs.length cap ∧ vs.length ≤ 9223372036854775807 ∧ VsAt W a vs := by
  obtain ⟨a, len, cap, b, o, cf, rfl, hmx, ha, hel⟩ := row_open Try.underlying30 cells48 (by omega) h
  obtain ⟨vs, hl, hvs⟩ := list_of (P := fun i v => ∃ ta tc, ∃ x : Int, cf i = [.string v.1, .slice ta v.2.length tc, .int .i64 x] ∧ v.2.length ≤ 9223372036854775807 ∧ TysAt W ta v.2) ((nil0, []) : ByteArray × List Ty) (fun i hi => by
    obtain ⟨h1, _, m, y, _, hy⟩ := hel i hi
    obtain ⟨xs, k, rfl, hxy, _, hxl, hf⟩ := DataW.trod_struct Try.underlying48 hy
    have hxl3 : xs.length = 3 := hxl
    match xs, hxl3, hcf : cf i, h1 with
    | [y0, y1, y2], _, [d0, d1, d2], _ =>
      rw [hcf] at hf
      have g0 := hf 0 _ rfl
      have g1 := hf 1 _ rfl
      have g2 := hf 2 _ rfl
      simp [cells3, cells9, cells24] at g0 g1 g2
      obtain ⟨s0, e0, _⟩ := DataW.trod_string Try.underlying9 g0
      obtain ⟨ta, tc, ts, rfl, h5, h6⟩ := types_of g1
      obtain ⟨x2, e2, _⟩ := DataW.trod_int Try.underlying3 g2
      simp at e0 e2
      subst e0 e2
      exact ⟨(s0, ts), ta, tc, x2, rfl, h5, h6⟩)
  refine ⟨a, cap, vs, by rw [hl], by omega, fun i v hi => ?_⟩
  have hil : i < len := by have := (List.getElem?_eq_some_iff.1 hi).1; omega
  obtain ⟨h1, h2, _⟩ := hel i hil
  obtain ⟨ta, tc, x, hcf, h5, h6⟩ := hvs i v hi
  rw [hcf] at h2
  have z0 := h2 0 (by omega)
  have z1 := h2 1 (by omega)
  have z2 := h2 2 (by omega)
  exact ⟨b, o, ta, tc, x, ha (by omega), by simpa using z0, by simpa using z1, by simpa using z2, h5, h6⟩
theorem body_cells {fuel : Nat} {cs : List Value} {x : DataW H × List MemPlace} (hlen : cs.length = 10) (h : DataW.trod enc Try.prog W 0 (fun _ => true) true fuel 33 cs = some x) :
    ∃ x10 x11 x12 s13 a14 n14 k14 a15 n15 k15 x16 s17 x18 a19 n19 k19, cs = [.int .i64 x10, .int .i64 x11, .int .i64 x12, .string s13, .slice a14 n14 k14, .slice a15 n15 k15, .int .i64 x16, .string s17, .int .i64 x18, .slice a19 n19 k19] := by
  obtain ⟨xs, k, rfl, hxy, _, hxl, hf⟩ := DataW.trod_struct Try.underlying33 h
  have hxl7 : xs.length = 7 := hxl
  match xs, hxl7, cs, hlen with
  | [y0, y1, y2, y3, y4, y5, y6], _, [c0, c1, c2, c3, c4, c5, c6, c7, c8, c9], _ =>
    have g0 := hf 0 _ rfl
    have g1 := hf 1 _ rfl
    have g2 := hf 2 _ rfl
    have g3 := hf 3 _ rfl
    have g4 := hf 4 _ rfl
    have g5 := hf 5 _ rfl
    have g6 := hf 6 _ rfl
    simp [cells3, cells9, cells31, cells24, cells26] at g0 g1 g2 g3 g4 g5 g6
    obtain ⟨a0, e0, _⟩ := DataW.trod_int Try.underlying3 g0
    obtain ⟨a1, e1, _⟩ := DataW.trod_int Try.underlying3 g1
    obtain ⟨a2, e2, _⟩ := DataW.trod_int Try.underlying3 g2
    obtain ⟨a3, e3, _⟩ := DataW.trod_string Try.underlying9 g3
    obtain ⟨a4, n4, k4, rfl⟩ := slice_form Try.underlying31 g4
    obtain ⟨a5, n5, k5, rfl⟩ := slice_form Try.underlying24 g5
    obtain ⟨x6, s7, x8, a9, n9, k9, rfl, rfl, rfl, rfl⟩ := type_cells g6
    simp at e0 e1 e2 e3
    subst e0 e1 e2 e3
    exact ⟨_, _, _, _, _, _, _, _, _, _, _, _, _, _, _, _, rfl⟩
theorem item_of {fuel : Nat} {cs : List Value} {x : DataW H × List MemPlace} (hlen : cs.length = 20) (h : DataW.trod enc Try.prog W 0 (fun _ => true) true fuel 35 cs = some x) : ∃ it, ItAt W cs it := by
  obtain ⟨xs, k, rfl, hxy, _, hxl, hf⟩ := DataW.trod_struct Try.underlying35 h
  have hxl8 : xs.length = 8 := hxl
  match xs, hxl8, cs, hlen with
  | [y0, y1, y2, y3, y4, y5, y6, y7], _, [c0, c1, c2, c3, c4, c5, c6, c7, c8, c9, c10, c11, c12, c13, c14, c15, c16, c17, c18, c19], _ =>
    have g0 := hf 0 _ rfl
    have g1 := hf 1 _ rfl
    have g2 := hf 2 _ rfl
    have g3 := hf 3 _ rfl
    have g4 := hf 4 _ rfl
    have g5 := hf 5 _ rfl
    have g6 := hf 6 _ rfl
    have g7 := hf 7 _ rfl
    simp [cells3, cells9, cells29, cells30, cells26, cells33] at g0 g1 g2 g3 g4 g5 g6 g7
    obtain ⟨a0, e0, _⟩ := DataW.trod_int Try.underlying3 g0
    obtain ⟨a1, e1, _⟩ := DataW.trod_string Try.underlying9 g1
    obtain ⟨a2, e2, _⟩ := DataW.trod_int Try.underlying3 g2
    obtain ⟨pa, pc, ps, rfl, hp1, hp2⟩ := params_of g3
    obtain ⟨va, vc, vs, rfl, hv1, hv2⟩ := variants_of g4
    obtain ⟨x5, s6, x7, a8, n8, k8, rfl, rfl, rfl, rfl⟩ := type_cells g5
    obtain ⟨a9, e9, _⟩ := DataW.trod_int Try.underlying3 g6
    obtain ⟨x10, x11, x12, s13, a14, n14, k14, a15, n15, k15, x16, s17, x18, a19, n19, k19, e⟩ := body_cells rfl g7
    simp at e e0 e1 e2 e9
    obtain ⟨rfl, rfl, rfl, rfl, rfl, rfl, rfl, rfl, rfl, rfl⟩ := e
    subst e0 e1 e2 e9
    exact ⟨⟨a0, a1, ps, vs⟩, ⟨pa, pc, va, vc, ⟨a2, x5, s6, x7, a8, n8, k8, a9, x10, x11, x12, s13, a14, n14, k14, a15, n15, k15, x16, s17, x18, a19, n19, k19⟩, rfl, hp1, hv1, hp2, hv2⟩⟩
/-- The items that came in. -/
theorem open_items {base : Nat} {v : Value} {d : DataW H} {ps : List MemPlace} (hv : Value.okWide Try.prog W .any base 22 v) (h : DataW.Trod enc Try.prog W 0 (fun _ => true) true 22 v d ps) :
    ∃ a cap, ∃ its : List It, v = .slice a its.length cap ∧ its.length ≤ 9223372036854775807 ∧ ItsAt W a its := by
  obtain ⟨ao, n, c, rfl⟩ := okWide_slice Try.underlying22 hv
  obtain ⟨fu, hf⟩ := h
  obtain ⟨a, len, cap, b, o, cf, e, hmx, ha, hel⟩ := row_open Try.underlying22 cells35 (by omega) (c := .slice ao n c) hf
  injection e with e1 e2 e3
  subst e1 e2 e3
  obtain ⟨its, hl, hits⟩ := list_of (P := fun i it => ItAt W (cf i) it) (⟨0, nil0, [], []⟩ : It) (fun i hi => by
    obtain ⟨h1, _, m, y, _, hy⟩ := hel i hi
    exact item_of h1 hy)
  refine ⟨ao, c, its, by rw [hl], by omega, fun i it hi => ?_⟩
  have hil : i < n := by have := (List.getElem?_eq_some_iff.1 hi).1; omega
  obtain ⟨h1, h2, _⟩ := hel i hil
  exact ⟨b, o, cf i, ha (by omega), h1, h2, hits i it hi⟩
/-- A type that came in. -/
theorem open_type {base : Nat} {v : Value} {d : DataW H} {ps : List MemPlace} (hv : Value.okWide Try.prog W .any base 26 v) (h : DataW.Trod enc Try.prog W 0 (fun _ => true) true 26 v d ps) :
    ∃ t ea ec, v = .agg #[.int .i64 (Ty.kind t), .string t.name, .int .i64 t.n, .slice ea t.el.length ec] ∧ TyAt W [.int .i64 t.kind, .string t.name, .int .i64 t.n, .slice ea t.el.length ec] t := by
  obtain ⟨cs, rfl, hsz⟩ := okWide_struct Try.underlying26 hv
  obtain ⟨fu, hf0⟩ := h
  rw [cells26] at hsz
  obtain ⟨l⟩ := cs
  have hsz' : l.length = 4 := hsz
  obtain ⟨t, ht⟩ := type_of fu l _ hsz' hf0
  match l, hsz' with
  | [c0, c1, c2, c3], _ =>
    obtain ⟨a, cap, rfl, rfl, rfl, rfl, h5, h6⟩ := ht.inv
    exact ⟨t, a, cap, rfl, ht⟩
end
end Go.Proofs.Ytioediibbgklcaa.W
