/- Items that came in: how long their rows may be. -/
import Derived.Test.YtioediibbgklcaaTyW
import Derived.SizedLaws
namespace Go.Proofs.Ytioediibbgklcaa.W
open Go Go.RowKit Go.Proofs Go.ChangeShapes Go.WideShapes Go.ChangeAt Go.Deep
set_option linter.unusedVariables false
set_option linter.unusedSimpArgs false
theorem bytes26 : 1 ≤ Try.prog.bytesOf 26 := by decide +kernel
theorem bytes28 : 1 ≤ Try.prog.bytesOf 28 := by decide +kernel
theorem bytes48 : 1 ≤ Try.prog.bytesOf 48 := by decide +kernel
theorem weightsAll_mem {H : Type} {P : Program} {e : TypeId} : ∀ {l : List (DataW H)} {d : DataW H}, d ∈ l → ∀ n ∈ d.weights P e, n ∈ DataW.weightsAll P e l
  | d' :: r, d, hd, n, hn => by
    simp only [DataW.weightsAll, List.mem_append]
    rcases List.mem_cons.1 hd with rfl | h
    · exact Or.inl hn
    · exact Or.inr (weightsAll_mem h n hn)
/-- What weighs no more than the reach. -/
def Light {H : Type} (t : TypeId) (d : DataW H) : Prop := ∀ n ∈ d.weights Try.prog t, n ≤ reachBytes
section
variable {H : Type} {enc : TypeId × Value → H} {W : World}
theorem light_field {t : TypeId} {fs : Array Field} (ht : Try.prog.underlying t = some (.struct fs)) {l : List (DataW H)} (h : Light t (.agg l : DataW H)) {j : Nat} {f : Field} {d : DataW H} (hf : fs[j]? = some f) (hd : l[j]? = some d) : Light f.type d := by
  intro n hn
  refine h n ?_
  simp only [DataW.weights, ht]
  exact DataW.weights_mem_each (by rw [List.getElem?_map, Array.getElem?_toList, hf]; rfl) hd n hn
theorem row_open_w {t e : TypeId} {s : Nat} (ht : Try.prog.underlying t = some (.slice e)) (ce : Try.prog.cellsOf e = s) (hs : 0 < s) {fuel : Nat} {c : Value} {x : DataW H × List MemPlace} (h : DataW.trod enc Try.prog W 0 (fun _ => true) true fuel t [c] = some x) (hx : Light t x.1) (hb : 1 ≤ Try.prog.bytesOf e) :
    ∃ a n cap b o, ∃ cs : Nat → List Value, c = .slice a n cap ∧ n ≤ 140737488351232 ∧ (0 < n → a = some ⟨b, o, none⟩) ∧ ∀ i, i < n → (cs i).length = s ∧ (∀ j, j < s → W.cell? ⟨b, o + i * s + j, none⟩ = (cs i)[j]?) ∧ ∃ m y, m < fuel ∧ DataW.trod enc Try.prog W 0 (fun _ => true) true m e (cs i) = some y ∧ Light e y.1 := by
  rcases DataW.trod_slice ht h with ⟨hcs, _⟩ | ⟨a, len, cap, elems, rest, n, rfl, hcs, hxe, _, hl, hmx, hlen2, hel, _, _⟩
  · simp at hcs
    exact ⟨none, 0, 0, 0, 0, fun _ => [], hcs, by omega, by omega, fun i hi => absurd hi (by omega)⟩
  · simp at hcs
    have hx' := hx
    unfold Light at hx'
    rw [hxe] at hx'
    simp only [DataW.weights, ht, List.length_map] at hx'
    have hmx' : len ≤ 140737488351232 := by
      have h1 := hx' _ (List.mem_cons_self)
      have h2 : (elems.length + rest.length) * 1 ≤ (elems.length + rest.length) * Try.prog.bytesOf e := Nat.mul_le_mul (Nat.le_refl _) hb
      have h3 : reachBytes = 140737488351232 := rfl
      omega
    have each : ∀ i, ∃ cs : List Value, i < len → cs.length = s ∧ (∀ j, j < s → W.cell? (a.add (i * s + j)) = cs[j]?) ∧ ∃ m y, m < n + 1 ∧ DataW.trod enc Try.prog W 0 (fun _ => true) true m e cs = some y ∧ Light e y.1 := by
      intro i
      by_cases hi : i < len
      · have e0 := hel i (by omega)
        rw [List.getElem?_eq_getElem (by omega), ce] at e0
        obtain ⟨cs0, q1, q2⟩ := Option.bind_eq_some_iff.1 e0
        obtain ⟨_, hl0, hc0⟩ := World.cells?_some q1
        refine ⟨cs0, fun _ => ⟨hl0, fun j hj => ?_, n, _, by omega, q2, ?_⟩⟩
        · have := hc0 j hj
          rw [add_add] at this
          exact this
        · intro k hk
          refine hx' k (List.mem_cons_of_mem _ (List.mem_append_left _ (weightsAll_mem (List.mem_map_of_mem (f := Prod.fst) (List.getElem_mem (by omega))) k hk)))
      · exact ⟨[], fun h => absurd h hi⟩
    obtain ⟨cs, hcsf⟩ := Classical.axiomOfChoice each
    rcases Nat.eq_zero_or_pos len with h0 | h0
    · subst h0
      exact ⟨some a, 0, cap, 0, 0, cs, hcs, by omega, by omega, fun i hi => absurd hi (by omega)⟩
    · obtain ⟨hl0, hc0, _⟩ := hcsf 0 h0
      obtain ⟨b, o, rfl⟩ : ∃ b o, a = ⟨b, o, none⟩ := by
        have := hc0 0 hs
        rw [List.getElem?_eq_getElem (by omega)] at this
        exact spot_none (by simpa using this)
      refine ⟨some ⟨b, o, none⟩, len, cap, b, o, cs, hcs, hmx', fun _ => rfl, fun i hi => ?_⟩
      obtain ⟨h1, h2, h3⟩ := hcsf i hi
      refine ⟨h1, fun j hj => ?_, h3⟩
      have := h2 j hj
      rw [Addr.add_lit] at this
      rw [Nat.add_assoc]
      exact this
theorem types_w {fuel : Nat} {c : Value} {x : DataW H × List MemPlace} (h : DataW.trod enc Try.prog W 0 (fun _ => true) true fuel 24 [c] = some x) (hx : Light 24 x.1) : ∃ a cap, ∃ ts : List Ty, c = .slice a ts.length cap ∧ ts.length ≤ 140737488351232 ∧ TysAt W a ts := by
  obtain ⟨a, cap, ts, rfl, h1, h2⟩ := types_of h
  obtain ⟨_, n, _, _, _, _, e, h3, _⟩ := row_open_w Try.underlying24 cells26 (by omega) h hx bytes26
  injection e with _ e _
  exact ⟨a, cap, ts, rfl, by omega, h2⟩
theorem params_w {fuel : Nat} {c : Value} {x : DataW H × List MemPlace} (h : DataW.trod enc Try.prog W 0 (fun _ => true) true fuel 29 [c] = some x) (hx : Light 29 x.1) : ∃ a cap, ∃ ps : List (ByteArray × Ty), c = .slice a ps.length cap ∧ ps.length ≤ 140737488351232 ∧ PsAt W a ps := by
  obtain ⟨a, cap, ps, rfl, h1, h2⟩ := params_of h
  obtain ⟨_, n, _, _, _, _, e, h3, _⟩ := row_open_w Try.underlying29 cells28 (by omega) h hx bytes28
  injection e with _ e _
  exact ⟨a, cap, ps, rfl, by omega, h2⟩
theorem variants_w {fuel : Nat} {c : Value} {x : DataW H × List MemPlace} (h : DataW.trod enc Try.prog W 0 (fun _ => true) true fuel 30 [c] = some x) (hx : Light 30 x.1) : ∃ a cap, ∃ vs : List (ByteArray × List Ty), c = .slice a vs.length cap ∧ vs.length ≤ 140737488351232 ∧ VsAt W a vs ∧ ∀ (i : Nat) v, vs[i]? = some v → v.2.length ≤ 140737488351232 := by
  obtain ⟨a, len, cap, b, o, cf, rfl, hmx, ha, hel⟩ := row_open_w Try.underlying30 cells48 (by omega) h hx bytes48
  obtain ⟨vs, hl, hvs⟩ := list_of (P := fun i v => ∃ ta tc, ∃ x : Int, cf i = [.string v.1, .slice ta v.2.length tc, .int .i64 x] ∧ v.2.length ≤ 140737488351232 ∧ TysAt W ta v.2) ((nil0, []) : ByteArray × List Ty) (fun i hi => by
    obtain ⟨h1, _, m, y, _, hy, hyl⟩ := hel i hi
    obtain ⟨xs, k, rfl, hxy, _, hxl, hf⟩ := DataW.trod_struct Try.underlying48 hy
    have hxl3 : xs.length = 3 := hxl
    rw [hxy] at hyl
    match xs, hxl3, hcf : cf i, h1 with
    | [y0, y1, y2], _, [d0, d1, d2], _ =>
      rw [hcf] at hf
      have hl1 := light_field Try.underlying48 hyl (j := 1) rfl rfl
      have g0 := hf 0 _ rfl
      have g1 := hf 1 _ rfl
      have g2 := hf 2 _ rfl
      simp [cells3, cells9, cells24] at g0 g1 g2
      obtain ⟨s0, e0, _⟩ := DataW.trod_string Try.underlying9 g0
      obtain ⟨ta, tc, ts, rfl, h5, h6⟩ := types_w g1 hl1
      obtain ⟨x2, e2, _⟩ := DataW.trod_int Try.underlying3 g2
      simp at e0 e2
      subst e0 e2
      exact ⟨(s0, ts), ta, tc, x2, rfl, h5, h6⟩)
  refine ⟨a, cap, vs, by rw [hl], by omega, fun i v hi => ?_, fun i v hi => ?_⟩
  · have hil : i < len := by have := (List.getElem?_eq_some_iff.1 hi).1; omega
    obtain ⟨h1, h2, _⟩ := hel i hil
    obtain ⟨ta, tc, x, hcf, h5, h6⟩ := hvs i v hi
    rw [hcf] at h2
    have z0 := h2 0 (by omega)
    have z1 := h2 1 (by omega)
    have z2 := h2 2 (by omega)
    exact ⟨b, o, ta, tc, x, ha (by omega), by simpa using z0, by simpa using z1, by simpa using z2, by omega, h6⟩
  · obtain ⟨ta, tc, x, hcf, h5, h6⟩ := hvs i v hi
    exact h5
/-- An item whose rows are of a length that may be added up. -/
structure Small (it : It) : Prop where
  ps : it.ps.length ≤ 140737488351232
  vs : it.vs.length ≤ 140737488351232
  each : ∀ (i : Nat) v, it.vs[i]? = some v → v.2.length ≤ 140737488351232
theorem item_w {fuel : Nat} {cs : List Value} {x : DataW H × List MemPlace} (hlen : cs.length = 20) (h : DataW.trod enc Try.prog W 0 (fun _ => true) true fuel 35 cs = some x) (hx : Light 35 x.1) : ∃ it, ItAt W cs it ∧ Small it := by
  obtain ⟨xs, k, rfl, hxy, _, hxl, hf⟩ := DataW.trod_struct Try.underlying35 h
  have hxl8 : xs.length = 8 := hxl
  rw [hxy] at hx
  match xs, hxl8, cs, hlen with
  | [y0, y1, y2, y3, y4, y5, y6, y7], _, [c0, c1, c2, c3, c4, c5, c6, c7, c8, c9, c10, c11, c12, c13, c14, c15, c16, c17, c18, c19], _ =>
    have hl3 := light_field Try.underlying35 hx (j := 3) rfl rfl
    have hl4 := light_field Try.underlying35 hx (j := 4) rfl rfl
    have g0 := hf 0 _ rfl
    have g1 := hf 1 _ rfl
    have g2 := hf 2 _ rfl
    have g3 := hf 3 _ rfl
    have g4 := hf 4 _ rfl
    have g5 := hf 5 _ rfl
    have g6 := hf 6 _ rfl
    have g7 := hf 7 _ rfl
    simp [cells3, cells9, cells29, cells30, cells26, cells33] at g0 g1 g2 g3 g4 g5 g6 g7
    obtain ⟨a0, e0, _⟩ := DataW.trod_int Try.underlying3 g0
    obtain ⟨a1, e1, _⟩ := DataW.trod_string Try.underlying9 g1
    obtain ⟨a2, e2, _⟩ := DataW.trod_int Try.underlying3 g2
    obtain ⟨pa, pc, ps, rfl, hp1, hp2⟩ := params_w g3 hl3
    obtain ⟨va, vc, vs, rfl, hv1, hv2, hv3⟩ := variants_w g4 hl4
    obtain ⟨x5, s6, x7, a8, n8, k8, rfl, rfl, rfl, rfl⟩ := type_cells g5
    obtain ⟨a9, e9, _⟩ := DataW.trod_int Try.underlying3 g6
    obtain ⟨x10, x11, x12, s13, a14, n14, k14, a15, n15, k15, x16, s17, x18, a19, n19, k19, e⟩ := body_cells rfl g7
    simp at e e0 e1 e2 e9
    obtain ⟨rfl, rfl, rfl, rfl, rfl, rfl, rfl, rfl, rfl, rfl⟩ := e
    subst e0 e1 e2 e9
    exact ⟨⟨a0, a1, ps, vs⟩, ⟨pa, pc, va, vc, ⟨a2, x5, s6, x7, a8, n8, k8, a9, x10, x11, x12, s13, a14, n14, k14, a15, n15, k15, x16, s17, x18, a19, n19, k19⟩, rfl, Nat.le_trans hp1 (by omega), Nat.le_trans hv1 (by omega), hp2, hv2⟩, ⟨hp1, hv1, hv3⟩⟩
theorem bytes35 : 1 ≤ Try.prog.bytesOf 35 := by decide +kernel
/-- The items that came in. -/
theorem open_items_w {base : Nat} {v : Value} {d : DataW H} {ps : List MemPlace} (hv : Value.okWide Try.prog W .any base 22 v) (h : DataW.Trod enc Try.prog W 0 (fun _ => true) true 22 v d ps) (hd : Light 22 d) :
    ∃ a cap, ∃ its : List It, v = .slice a its.length cap ∧ its.length ≤ 140737488351232 ∧ ItsAt W a its ∧ ∀ (i : Nat) it, its[i]? = some it → Small it := by
  obtain ⟨ao, n, c, rfl⟩ := okWide_slice Try.underlying22 hv
  obtain ⟨fu, hf⟩ := h
  obtain ⟨a, len, cap, b, o, cf, e, hmx, ha, hel⟩ := row_open_w Try.underlying22 cells35 (by omega) (c := .slice ao n c) hf hd bytes35
  injection e with e1 e2 e3
  subst e1 e2 e3
  obtain ⟨its, hl, hits⟩ := list_of (P := fun i it => ItAt W (cf i) it ∧ Small it) (⟨0, nil0, [], []⟩ : It) (fun i hi => by
    obtain ⟨h1, _, m, y, _, hy, hyl⟩ := hel i hi
    exact item_w h1 hy hyl)
  refine ⟨ao, c, its, by rw [hl], by omega, fun i it hi => ?_, fun i it hi => (hits i it hi).2⟩
  have hil : i < n := by have := (List.getElem?_eq_some_iff.1 hi).1; omega
  obtain ⟨h1, h2, _⟩ := hel i hil
  exact ⟨b, o, cf i, ha (by omega), h1, h2, (hits i it hi).1⟩
end
end Go.Proofs.Ytioediibbgklcaa.W
