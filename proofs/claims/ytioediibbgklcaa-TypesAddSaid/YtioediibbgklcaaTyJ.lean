/- counter.add. -/
import Derived.Test.YtioediibbgklcaaTyI
import Derived.Deep.CutBlock
namespace Go.Proofs.Ytioediibbgklcaa.W
open Go Go.RowKit Go.Proofs
set_option linter.unusedVariables false
set_option linter.unusedSimpArgs false
theorem addS_named (its : List It) (f l : Nat) (t : Ty) (h : t.kind = 9) : addS its (f + 1) (l + 1) t = namedS (addS its f) its l t := by
  unfold namedS
  simp only [addS, h]
  rw [if_neg (by omega), if_neg (by omega), if_pos trivial]
  cases itemOf its t with
  | none => rfl
  | some it =>
    simp only
    split
    · rfl
    · cases enumS (addS its f) (it.vs.map Prod.snd) l 0 ⟨1, 0, false⟩ with
      | none => rfl
      | some x => obtain ⟨x, y, z⟩ := x; rfl
theorem Cnt.setl {W0 w : World} {cb : Nat} {lv : Value} {l : Int} {bad : Bool} (h : Cnt W0 cb lv l bad w) (x : Int) : Cnt W0 cb lv x bad (w.setCell ⟨cb, 1, none⟩ (.int .i64 x)) :=
  ⟨heap_setCell_same w cb 1 _ 74 (.int .i64 x) h.at', h.bel.grown (setCell_grown w cb 1 _) h.bel.size (fun g e => by injection e with e; have := h.ge; omega), h.ge⟩
/-- The start of add: the type in its box, the answer's block, the counter. -/
structure Beg (W0 : World) (cb : Nat) (lv : Value) (W : World) (rb : Nat) (A : Array Value) (l : Int) (bad : Bool) (X : World) : Prop where
  cnt : Cnt W0 cb lv l bad X
  res : AmAt rb 0 0 false X
  ty : X.heap[W.heap.size]? = some (.cells A 26 (0, 0))
  gr : W.grownBy X (some cb)
theorem Beg.cells {W0 : World} {cb : Nat} {lv : Value} {W : World} {rb : Nat} {v0 v1 v2 v3 : Value} {l : Int} {bad : Bool} {X : World} (h : Beg W0 cb lv W rb #[v0, v1, v2, v3] l bad X) :
    X.cell? ⟨W.heap.size, 0, none⟩ = some v0 ∧ X.cell? ⟨W.heap.size, 1, none⟩ = some v1 ∧ X.cell? ⟨W.heap.size, 2, none⟩ = some v2 ∧ X.cell? ⟨W.heap.size, 3, none⟩ = some v3 := by
  refine ⟨?_, ?_, ?_, ?_⟩ <;> (rw [cell_of_row _ _ _ _ 26 (0, 0) h.ty]; rfl)
theorem Beg.turn {W0 : World} {cb : Nat} {lv : Value} {W : World} {rb : Nat} {A : Array Value} {l l2 : Int} {bad bad2 : Bool} {X X' : World} (h : Beg W0 cb lv W rb A l bad X) (hc : Cnt W0 cb lv l2 bad2 X') (hg : X.grownBy X' (some cb)) (h1 : cb ≠ rb) (h2 : cb ≠ W.heap.size) : Beg W0 cb lv W rb A l2 bad2 X' :=
  ⟨hc, h.res.keepg hg (fun e => h1 e.symm), (hg.block _ (Array.getElem?_eq_some_iff.1 h.ty).1 (fun e => h2 (by injection e with e; exact e.symm))).trans h.ty, grown_trans h.gr hg⟩
theorem Beg.keep {W0 : World} {cb : Nat} {lv : Value} {W : World} {rb : Nat} {A : Array Value} {l : Int} {bad : Bool} {X X' : World} (h : Beg W0 cb lv W rb A l bad X) (hb : Below X.heap.size X X') : Beg W0 cb lv W rb A l bad X' :=
  ⟨h.cnt.keep hb, h.res.keep hb, (hb.block _ (Array.getElem?_eq_some_iff.1 h.ty).1).trans h.ty, grown_trans h.gr (below_grown hb)⟩
set_option maxHeartbeats 4000000 in
set_option maxRecDepth 100000 in
theorem add_stop (W0 : World) (cb : Nat) (lv : Value) (W : World) (l : Int) (bad : Bool) (c0 c1 c2 c3 : Value) (t : Ty) (hT : TyAt W0 [c0, c1, c2, c3] t) (hC : Cnt W0 cb lv l bad W) (hs : bad = true ∨ l = 0) :
    Calls Try.prog 34 #[.pointer (some ⟨cb, 0, none⟩), .agg #[c0, c1, c2, c3]] W (Left W0 cb lv none W) := by
  obtain ⟨ea, ec, rfl, rfl, rfl, rfl, hel, hts⟩ := hT.inv
  have hcl := hC.lt
  have hCs := hC.bel.size
  go_enter Try.func34, Try.ntmps34
  go_upto_region 1 with fail
  have hb1 : Below W.heap.size W (W.alloc (.cells #[.int .i64 t.kind, .string t.name, .int .i64 t.n, .slice ea t.el.length ec] 26)) := (Below.refl _ _).alloc (Nat.le_refl _) _
  have hT1 := heap_alloc_new W (.cells #[.int .i64 t.kind, .string t.name, .int .i64 t.n, .slice ea t.el.length ec] 26)
  obtain ⟨w1, hw1⟩ : ∃ y, W.alloc (.cells #[.int .i64 t.kind, .string t.name, .int .i64 t.n, .slice ea t.el.length ec] 26) = y := ⟨_, rfl⟩
  have hs1 : w1.heap.size = W.heap.size + 1 := by rw [← hw1]; simp
  rw [hw1] at hb1 hT1 ⊢
  have hb2 : Below w1.heap.size w1 (w1.alloc (.cells #[.int .i64 0, .int .i64 0, .bool false] 55)) := (Below.refl _ _).alloc (Nat.le_refl _) _
  have hR2 : AmAt w1.heap.size 0 0 false (w1.alloc (.cells #[.int .i64 0, .int .i64 0, .bool false] 55)) := ⟨heap_alloc_new w1 _⟩
  obtain ⟨w2, hw2⟩ : ∃ y, w1.alloc (.cells #[.int .i64 0, .int .i64 0, .bool false] 55) = y := ⟨_, rfl⟩
  have hs2 : w2.heap.size = W.heap.size + 2 := by rw [← hw2]; simp [hs1]
  rw [hw2] at hb2 hR2 ⊢
  have hB2 : Below W.heap.size W w2 := hb1.trans (hb2.mono hb1.size)
  obtain ⟨rb, hrb⟩ : ∃ y, W.heap.size + 1 = y := ⟨_, rfl⟩
  rw [hs1, hrb] at hR2
  rw [hrb]
  have hcr : cb ≠ rb := by omega
  have hct : cb ≠ W.heap.size := by omega
  have hWr : W.heap.size ≤ rb := by omega
  have hBg : Beg W0 cb lv W rb #[.int .i64 t.kind, .string t.name, .int .i64 t.n, .slice ea t.el.length ec] l bad w2 := ⟨hC.keep hB2, hR2, (hb2.block W.heap.size (by omega)).trans hT1, below_grown hB2⟩
  clear hw1 hw2 hb1 hb2 hs1 hT1 hR2 hB2 hC
  obtain ⟨d0, d1, d2, d3, d4⟩ := hBg.cnt.cells
  have hC3 := hBg.cnt.setl (wrap64 (l - 1))
  have hBg3 := hBg.turn hC3 (setCell_grown w2 cb 1 _) hcr hct
  have hx : ∃ x, wrap64 (l - 1) = x ∧ (bad = true ∨ x < 0) := ⟨_, rfl, by
    rcases hs with h | h
    · exact .inl h
    · right; subst h; rw [IntWalk.wrap64_in _ (by omega)]; omega⟩
  obtain ⟨x, hx, hx2⟩ := hx
  rw [hx] at hBg3 hC3
  go_upto_region 2 with fail
  rw [hx]
  clear hx hC3 d0 d1 d2 d3 d4
  obtain ⟨w3, hw3⟩ : ∃ y, w2.setCell ⟨cb, 1, none⟩ (.int .i64 x) = y := ⟨_, rfl⟩
  rw [hw3] at hBg3 ⊢
  clear hw3
  obtain ⟨d0, d1, d2, d3, d4⟩ := hBg3.cnt.cells
  have hBg4 := hBg3.turn (hBg3.cnt.spoil true) (setCell_grown w3 cb 2 _) hcr hct
  have hend : ∀ (bad : Bool), True := fun _ => trivial
  cases bad with
  | true =>
    go_upto_region 3 with fail
    obtain ⟨w4, hw4⟩ : ∃ y, w3.setCell ⟨cb, 2, none⟩ (.bool true) = y := ⟨_, rfl⟩
    rw [hw4] at hBg4 ⊢
    clear hw4 d0 d1 d2 d3 d4
    obtain ⟨d0, d1, d2, d3, d4⟩ := hBg4.cnt.cells
    obtain ⟨z0, z1, z2, z3, z4, z5⟩ := hBg4.res.cells
    obtain ⟨hC5, hA5, hG5⟩ := am_put hBg4.cnt hBg4.res hBg4.gr hcr hWr (by omega) 0 0 false
    go_wp2
    generalize (((w4.setCell ⟨rb, 0, none⟩ (.int .i64 0)).setCell ⟨rb, 1, none⟩ (.int .i64 0)).setCell ⟨rb, 2, none⟩ (.bool false)) = wf at hC5 hA5 hG5 ⊢
    obtain ⟨b0, b1, b2, _⟩ := hA5.cells
    exact bodyPost_ret (v := .agg #[.int .i64 0, .int .i64 0, .bool false]) (by simp [results, Try.results34, go_sem, b0, b1, b2]) rfl ⟨⟨x, true, 0, 0, false, rfl, hC5, rfl⟩, hG5⟩
  | false =>
    have hneg : x < 0 := by rcases hx2 with h | h; cases h; exact h
    go_upto_region 3 with fail
    obtain ⟨w4, hw4⟩ : ∃ y, w3.setCell ⟨cb, 2, none⟩ (.bool true) = y := ⟨_, rfl⟩
    rw [hw4] at hBg4 ⊢
    clear hw4 d0 d1 d2 d3 d4
    obtain ⟨d0, d1, d2, d3, d4⟩ := hBg4.cnt.cells
    obtain ⟨z0, z1, z2, z3, z4, z5⟩ := hBg4.res.cells
    obtain ⟨hC5, hA5, hG5⟩ := am_put hBg4.cnt hBg4.res hBg4.gr hcr hWr (by omega) 0 0 false
    go_wp2
    generalize (((w4.setCell ⟨rb, 0, none⟩ (.int .i64 0)).setCell ⟨rb, 1, none⟩ (.int .i64 0)).setCell ⟨rb, 2, none⟩ (.bool false)) = wf at hC5 hA5 hG5 ⊢
    obtain ⟨b0, b1, b2, _⟩ := hA5.cells
    exact bodyPost_ret (v := .agg #[.int .i64 0, .int .i64 0, .bool false]) (by simp [results, Try.results34, go_sem, b0, b1, b2]) rfl ⟨⟨x, true, 0, 0, false, rfl, hC5, rfl⟩, hG5⟩
set_option maxHeartbeats 4000000 in
set_option maxRecDepth 100000 in
theorem add_calls (W0 : World) (cb : Nat) (la : Option Addr) (its : List It) (lc : Nat) (hn : its.length ≤ 9223372036854775807) (hI : ItsAt W0 la its) : ∀ f, f ≤ 900000 → AddC W0 cb (.slice la its.length lc) (addS its f) f := by
  intro f
  induction f with
  | zero =>
    intro hF W l bad c0 c1 c2 c3 t hT hC hl
    cases bad with
    | true => exact add_stop W0 cb _ W l true c0 c1 c2 c3 t hT hC (.inl rfl)
    | false => exact absurd (hl rfl) (by omega)
  | succ f ih =>
    intro hF W l bad c0 c1 c2 c3 t hT hC hl
    cases bad with
    | true => exact add_stop W0 cb _ W l true c0 c1 c2 c3 t hT hC (.inl rfl)
    | false =>
    obtain ⟨l0, l1⟩ := hl rfl
    obtain ⟨n, rfl⟩ : ∃ n : Nat, l = n := ⟨l.toNat, by omega⟩
    cases n with
    | zero =>
      have e : ok? false (addS its (f + 1) ((0 : Nat) : Int).toNat t) = none := rfl
      rw [e]
      exact add_stop W0 cb _ W 0 false c0 c1 c2 c3 t hT hC (.inr rfl)
    | succ n =>
    have hadd := ih (by omega)
    have hf := addS_fair its f
    obtain ⟨ea, ec, rfl, rfl, rfl, rfl, hel, hts⟩ := hT.inv
    have hcl := hC.lt
    have hCs := hC.bel.size
    go_enter Try.func34, Try.ntmps34
    go_upto_region 1 with fail
    have hb1 : Below W.heap.size W (W.alloc (.cells #[.int .i64 t.kind, .string t.name, .int .i64 t.n, .slice ea t.el.length ec] 26)) := (Below.refl _ _).alloc (Nat.le_refl _) _
    have hT1 := heap_alloc_new W (.cells #[.int .i64 t.kind, .string t.name, .int .i64 t.n, .slice ea t.el.length ec] 26)
    obtain ⟨w1, hw1⟩ : ∃ y, W.alloc (.cells #[.int .i64 t.kind, .string t.name, .int .i64 t.n, .slice ea t.el.length ec] 26) = y := ⟨_, rfl⟩
    have hs1 : w1.heap.size = W.heap.size + 1 := by rw [← hw1]; simp
    rw [hw1] at hb1 hT1 ⊢
    have hb2 : Below w1.heap.size w1 (w1.alloc (.cells #[.int .i64 0, .int .i64 0, .bool false] 55)) := (Below.refl _ _).alloc (Nat.le_refl _) _
    have hR2 : AmAt w1.heap.size 0 0 false (w1.alloc (.cells #[.int .i64 0, .int .i64 0, .bool false] 55)) := ⟨heap_alloc_new w1 _⟩
    obtain ⟨w2, hw2⟩ : ∃ y, w1.alloc (.cells #[.int .i64 0, .int .i64 0, .bool false] 55) = y := ⟨_, rfl⟩
    have hs2 : w2.heap.size = W.heap.size + 2 := by rw [← hw2]; simp [hs1]
    rw [hw2] at hb2 hR2 ⊢
    have hB2 : Below W.heap.size W w2 := hb1.trans (hb2.mono hb1.size)
    obtain ⟨rb, hrb⟩ : ∃ y, W.heap.size + 1 = y := ⟨_, rfl⟩
    rw [hs1, hrb] at hR2
    rw [hrb]
    have hcr : cb ≠ rb := by omega
    have hct : cb ≠ W.heap.size := by omega
    have hWr : W.heap.size ≤ rb := by omega
    have hBg : Beg W0 cb (.slice la its.length lc) W rb #[.int .i64 t.kind, .string t.name, .int .i64 t.n, .slice ea t.el.length ec] ((n + 1 : Nat) : Int) false w2 := ⟨hC.keep hB2, hR2, (hb2.block W.heap.size (by omega)).trans hT1, below_grown hB2⟩
    clear hw1 hw2 hb1 hb2 hs1 hT1 hR2 hB2 hC
    obtain ⟨d0, d1, d2, d3, d4⟩ := hBg.cnt.cells
    have hC3 := hBg.cnt.setl (wrap64 (((n + 1 : Nat) : Int) - 1))
    have hBg3 := hBg.turn hC3 (setCell_grown w2 cb 1 _) hcr hct
    have hx : wrap64 (((n + 1 : Nat) : Int) - 1) = (n : Int) := by
      have k1 : -9223372036854775808 ≤ ((n + 1 : Nat) : Int) - 1 ∧ ((n + 1 : Nat) : Int) - 1 ≤ 9223372036854775807 := by omega
      rw [IntWalk.wrap64_in _ k1]; omega
    rw [hx] at hBg3 hC3
    go_upto_region 2 with fail
    rw [show w2.setCell ⟨cb, 1, none⟩ (.int .i64 (n : Int)) = w2.setCell ⟨cb, 1, none⟩ (.int .i64 n) from rfl]
    clear hx hC3 d0 d1 d2 d3 d4
    obtain ⟨w3, hw3⟩ : ∃ y, w2.setCell ⟨cb, 1, none⟩ (.int .i64 n) = y := ⟨_, rfl⟩
    rw [hw3] at hBg3 ⊢
    clear hw3
    obtain ⟨d0, d1, d2, d3, d4⟩ := hBg3.cnt.cells
    have hBg4 := hBg3.turn (hBg3.cnt.spoil false) (setCell_grown w3 cb 2 _) hcr hct
    have hnb : decide ((n : Int) < 0) = false := by simp
    go_upto_region 3 with fail
    obtain ⟨w4, hw4⟩ : ∃ y, w3.setCell ⟨cb, 2, none⟩ (.bool false) = y := ⟨_, rfl⟩
    rw [hw4] at hBg4 ⊢
    clear hw4 d0 d1 d2 d3 d4 hBg3 hBg
    obtain ⟨d0, d1, d2, d3, d4⟩ := hBg4.cnt.cells
    go_upto_block 0 with fail
    have hb5 : Below w4.heap.size w4 (w4.alloc (.cells #[.int .i64 1, .int .i64 1, .bool false] 55)) := (Below.refl _ _).alloc (Nat.le_refl _) _
    have hO5 : AmAt w4.heap.size 1 1 false (w4.alloc (.cells #[.int .i64 1, .int .i64 1, .bool false] 55)) := ⟨heap_alloc_new w4 _⟩
    have hBg5 := hBg4.keep hb5
    have hob : rb < w4.heap.size := (Array.getElem?_eq_some_iff.1 hBg4.res.at').1
    have hcb : cb < w4.heap.size := hBg4.cnt.lt
    have htb : W.heap.size < w4.heap.size := (Array.getElem?_eq_some_iff.1 hBg4.ty).1
    obtain ⟨ob, hobe⟩ : ∃ y, w4.heap.size = y := ⟨_, rfl⟩
    obtain ⟨w5, hw5⟩ : ∃ y, w4.alloc (.cells #[.int .i64 1, .int .i64 1, .bool false] 55) = y := ⟨_, rfl⟩
    rw [hw5] at hO5 hBg5 ⊢
    rw [hobe] at hO5 hob hcb htb ⊢
    clear hw5 hobe hb5 hBg4 d0 d1 d2 d3 d4
    obtain ⟨d0, d1, d2, d3, d4⟩ := hBg5.cnt.cells
    obtain ⟨e0, e1, e2, e3⟩ := hBg5.cells
    obtain ⟨z0, z1, z2, z3, z4, z5⟩ := hBg5.res.cells
    obtain ⟨o0, o1, o2, o3, o4, o5⟩ := hO5.cells
    have hWo : W.heap.size ≤ ob := by omega
    have hnn : ((n + 1 : Nat) : Int).toNat = n + 1 := by omega
    have hok : ∀ r, ok? false r = r := fun r => rfl
    rw [hok, hnn]
    clear hok hnn
    have hce : cb ≠ ob := by omega
    have hro : rb ≠ ob := by omega
    have hto : W.heap.size ≠ ob := by omega
    have hput : ∀ (i : Nat) (v : Value) (p' w' : Int) (m' : Bool), ((#[.int .i64 1, .int .i64 1, .bool false] : Array Value).setIfInBounds i v) = #[.int .i64 p', .int .i64 w', .bool m'] → Beg W0 cb (.slice la its.length lc) W rb #[.int .i64 t.kind, .string t.name, .int .i64 t.n, .slice ea t.el.length ec] n false (w5.setCell ⟨ob, i, none⟩ v) ∧ AmAt ob p' w' m' (w5.setCell ⟨ob, i, none⟩ v) := fun i v p' w' m' hv => by
      have g := setCell_grown w5 ob i v
      refine ⟨⟨⟨(g.block cb hBg5.cnt.lt (fun e => hce (by injection e))).trans hBg5.cnt.at', hBg5.cnt.bel.grown g hBg5.cnt.bel.size (fun q e => by injection e with e; omega), hBg5.cnt.ge⟩, hBg5.res.keepg g hro, (g.block _ (Array.getElem?_eq_some_iff.1 hBg5.ty).1 (fun e => hto (by injection e))).trans hBg5.ty, grown_new hBg5.gr g hWo⟩, ⟨by rw [← hv]; exact heap_setCell_same w5 ob i _ 55 v hO5.at'⟩⟩
    go_cut [1, 5] (fun av sp wx => sp = .pointer (some ⟨ob, 0, none⟩) ∧ ∃ (bad : Bool) (p w : Int) (m : Bool), Beg W0 cb (.slice la its.length lc) W rb #[.int .i64 t.kind, .string t.name, .int .i64 t.n, .slice ea t.el.length ec] n bad wx ∧ AmAt ob p w m wx ∧ Res (addS its (f + 1) (n + 1) t) n bad p w m)
    case first =>
      by_cases k1 : t.kind = 1
      · have hadS : addS its (f + 1) (n + 1) t = some (n, ⟨1, 0, false⟩) := by simp [addS, k1]
        obtain ⟨q1, q2⟩ := hput 1 (.int .i64 0) 1 0 false rfl
        have HQ := Lib.hid hadS
        clear hadS
        go_wp2
        go_meet
        exact ⟨rfl, false, 1, 0, false, q1, q2, by rw [HQ.out]; exact ⟨rfl, rfl, rfl, rfl, rfl⟩⟩
      · by_cases k2 : 2 ≤ t.kind ∧ t.kind ≤ 8
        · have hadS : addS its (f + 1) (n + 1) t = some (n, ⟨1, 1, false⟩) := by simp [addS, k1, k2]
          obtain ⟨k2a, k2b⟩ := k2
          have HQ := Lib.hid hadS
          clear hadS hput
          go_wp2
          go_meet
          exact ⟨rfl, false, 1, 1, false, hBg5, hO5, by rw [HQ.out]; exact ⟨rfl, rfl, rfl, rfl, rfl⟩⟩
        · by_cases k9 : t.kind = 9
          · have HQ := Lib.hid (addS_named its f n t k9)
            clear hput
            have hN := named_calls W0 cb la its lc hn hI (addS its f) f hf hadd (by omega) w5 n hBg5.cnt ⟨by omega, by omega⟩ t ea t.el.length ec
            rw [k9] at hN
            go_wp2_with (go_at_call 37; refine hN.mono ?_; intro e6 w6 hLf; obtain ⟨l2, bad2, p2, w2', m2, rfl, hC6, hR2⟩ := hLf.ex; have hB6 := hBg5.turn hC6 hLf.grown hcr hct; obtain ⟨z0, z1, z2, z3, z4, z5⟩ := hB6.res.cells)
            obtain ⟨hC7, hA7, hG7⟩ := am_put hB6.cnt hB6.res hB6.gr hcr hWr (by omega) p2 w2' m2
            generalize (((w6.setCell ⟨rb, 0, none⟩ (.int .i64 p2)).setCell ⟨rb, 1, none⟩ (.int .i64 w2')).setCell ⟨rb, 2, none⟩ (.bool m2)) = wf at hC7 hA7 hG7 ⊢
            obtain ⟨b0, b1, b2, _⟩ := hA7.cells
            exact bodyPost_ret (v := .agg #[.int .i64 p2, .int .i64 w2', .bool m2]) (by simp [results, Try.results34, go_sem, b0, b1, b2]) rfl ⟨⟨l2, bad2, p2, w2', m2, rfl, hC7, by rw [HQ.out]; exact hR2⟩, hG7⟩
          · by_cases kb : t.kind < 10 ∨ 13 < t.kind ∨ t.el.length = 0
            · have hadS : addS its (f + 1) (n + 1) t = none := by
                simp only [addS, if_neg k1, if_neg k2, if_neg k9]
                by_cases q : t.kind < 10 ∨ 13 < t.kind
                · rw [if_pos q]
                · rw [if_neg q]
                  have : t.el = [] := List.eq_nil_of_length_eq_zero (by omega)
                  rw [this]
              have HQ := Lib.hid hadS
              have hB6 := hBg5.turn (hBg5.cnt.spoil true) (setCell_grown w5 cb 2 _) hcr hct
              have hO6 := hO5.keepg (setCell_grown w5 cb 2 (.bool true)) (fun h => hce h.symm)
              clear hadS hput
              rcases (by omega : t.kind ≤ 0 ∨ 13 < t.kind ∨ (10 ≤ t.kind ∧ t.kind ≤ 13 ∧ t.el.length = 0)) with kc | kc | ⟨kc1, kc2, kc3⟩
              · have n2 : t.kind < 2 := by omega
                have n3 : t.kind < 10 := by omega
                clear kb k2
                go_wp2
                go_meet
                exact ⟨rfl, true, 1, 1, false, hB6, hO6, by rw [HQ.out]; rfl⟩
              · have n2 : 2 ≤ t.kind := by omega
                have n3 : 8 < t.kind := by omega
                have n4 : ¬ t.kind < 10 := by omega
                clear kb k2
                go_wp2
                go_meet
                exact ⟨rfl, true, 1, 1, false, hB6, hO6, by rw [HQ.out]; rfl⟩
              · have n2 : 2 ≤ t.kind := by omega
                have n3 : 8 < t.kind := by omega
                have n4 : ¬ t.kind < 10 := by omega
                have n5 : ¬ 13 < t.kind := by omega
                clear kb k2
                go_wp2
                go_meet
                exact ⟨rfl, true, 1, 1, false, hB6, hO6, by rw [HQ.out]; rfl⟩
            · have hlen : 0 < t.el.length := by omega
              have kx : 10 ≤ t.kind ∧ t.kind ≤ 13 := by omega
              obtain ⟨kx1, kx2⟩ := kx
              obtain ⟨e, es, hle⟩ : ∃ e es, t.el = e :: es := by
                cases h : t.el with
                | nil => rw [h] at hlen; simp at hlen
                | cons e es => exact ⟨e, es, rfl⟩
              by_cases k10 : t.kind = 10
              · have hadS : addS its (f + 1) (n + 1) t = sumS (addS its f) (List.replicate t.n.toNat e) n ⟨1, 0, false⟩ := by
                  simp only [addS, if_neg k1, if_neg k2, if_neg k9, if_neg (show ¬ (t.kind < 10 ∨ 13 < t.kind) by omega), hle, if_pos k10]
                have HQ := Lib.hid hadS
                have HE := Lib.hid hle
                have HZ := Lib.hid hts
                have hN := array_calls W0 cb (.slice la its.length lc) (addS its f) f hf hadd (by omega) w5 n hBg5.cnt ⟨by omega, by omega⟩ t ea ec e es HE.out hel HZ.out
                rw [k10] at hN
                have n6 : ¬ t.el.length = 0 := by omega
                clear hadS hput hle hts kb k2
                go_wp2_with (go_at_call 38; refine hN.mono ?_; intro e6 w6 hLf; obtain ⟨l2, bad2, p2, w2', m2, rfl, hC6, hR2⟩ := hLf.ex; have hB6 := hBg5.turn hC6 hLf.grown hcr hct; obtain ⟨z0, z1, z2, z3, z4, z5⟩ := hB6.res.cells)
                obtain ⟨hC7, hA7, hG7⟩ := am_put hB6.cnt hB6.res hB6.gr hcr hWr (by omega) p2 w2' m2
                generalize (((w6.setCell ⟨rb, 0, none⟩ (.int .i64 p2)).setCell ⟨rb, 1, none⟩ (.int .i64 w2')).setCell ⟨rb, 2, none⟩ (.bool m2)) = wf at hC7 hA7 hG7 ⊢
                obtain ⟨b0, b1, b2, _⟩ := hA7.cells
                exact bodyPost_ret (v := .agg #[.int .i64 p2, .int .i64 w2', .bool m2]) (by simp [results, Try.results34, go_sem, b0, b1, b2]) rfl ⟨⟨l2, bad2, p2, w2', m2, rfl, hC7, by rw [HQ.out]; exact hR2⟩, hG7⟩
              · have hadS : addS its (f + 1) (n + 1) t = some (n, ⟨1, 1, decide (t.kind ≠ 12)⟩) := by
                  simp only [addS, if_neg k1, if_neg k2, if_neg k9, if_neg (show ¬ (t.kind < 10 ∨ 13 < t.kind) by omega), hle, if_neg k10]
                have HQ := Lib.hid hadS
                obtain ⟨q1, q2⟩ := hput 2 (.bool (decide (t.kind ≠ 12))) 1 1 (decide (t.kind ≠ 12)) rfl
                have n2 : 2 ≤ t.kind := by omega
                have n3 : 8 < t.kind := by omega
                have n4 : ¬ t.kind < 10 := by omega
                have n5 : ¬ 13 < t.kind := by omega
                have n6 : ¬ t.el.length = 0 := by omega
                clear hadS hle kb k2 hput
                by_cases k12 : t.kind = 12
                · have e : decide (t.kind ≠ 12) = false := by simp [k12]
                  rw [e] at q1 q2 HQ
                  go_wp2
                  go_meet
                  exact ⟨rfl, false, 1, 1, false, q1, q2, by rw [HQ.out]; exact ⟨rfl, rfl, rfl, rfl, rfl⟩⟩
                · have e : decide (t.kind ≠ 12) = true := by simp [k12]
                  have e9 : (t.kind != 12) = true := by simpa using k12
                  rw [e] at q1 q2 HQ
                  go_wp2
                  go_meet
                  exact ⟨rfl, false, 1, 1, true, q1, q2, by rw [HQ.out]; exact ⟨rfl, rfl, rfl, rfl, rfl⟩⟩
    case rest =>
      clear d0 d1 d2 d3 d4 e0 e1 e2 e3 z0 z1 z2 z3 z4 z5 o0 o1 o2 o3 o4 o5 hput
      obtain ⟨rfl, bad, p, w, m, hB, hO, hR⟩ := hcut
      obtain ⟨o0, o1, o2, o3, o4, o5⟩ := hO.cells
      obtain ⟨z0, z1, z2, z3, z4, z5⟩ := hB.res.cells
      obtain ⟨hC6, hA6, hG6⟩ := am_put hB.cnt hB.res hB.gr hcr hWr (by omega) p w m
      go_wp2
      generalize (((wc.setCell ⟨rb, 0, none⟩ (.int .i64 p)).setCell ⟨rb, 1, none⟩ (.int .i64 w)).setCell ⟨rb, 2, none⟩ (.bool m)) = wf at hC6 hA6 hG6 ⊢
      obtain ⟨b0, b1, b2, _⟩ := hA6.cells
      exact bodyPost_ret (v := .agg #[.int .i64 p, .int .i64 w, .bool m]) (by simp [results, Try.results34, go_sem, b0, b1, b2]) rfl ⟨⟨n, bad, p, w, m, rfl, hC6, hR⟩, hG6⟩
end Go.Proofs.Ytioediibbgklcaa.W
