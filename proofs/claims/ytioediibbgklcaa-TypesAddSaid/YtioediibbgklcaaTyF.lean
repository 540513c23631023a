/- counter.all: types counted together. -/
import Derived.Test.YtioediibbgklcaaTyE
import Derived.Deep.RegionLawGrows
namespace Go.Proofs.Ytioediibbgklcaa.W
open Go Go.RowKit Go.Proofs
set_option linter.unusedVariables false
set_option linter.unusedSimpArgs false
/-- Within a round: the counter, the amount so far, the type that is counted. -/
structure Rnd (W0 : World) (cb : Nat) (lv : Value) (W : World) (ab eb : Nat) (et : TypeId) (p w : Int) (m : Bool) (A : Array Value) (l : Int) (bad : Bool) (X : World) : Prop where
  cnt : Cnt W0 cb lv l bad X
  am : AmAt ab p w m X
  el : X.heap[eb]? = some (.cells A et (0, 0))
  gr : W.grownBy X (some cb)
theorem Rnd.call {W0 : World} {cb : Nat} {lv : Value} {W : World} {ab eb : Nat} {et : TypeId} {p w : Int} {m : Bool} {A : Array Value} {l l2 : Int} {bad bad2 : Bool} {X X' : World} (h : Rnd W0 cb lv W ab eb et p w m A l bad X) (hc : Cnt W0 cb lv l2 bad2 X') (hg : X.grownBy X' (some cb)) (ha : cb ≠ ab) (he : cb ≠ eb) : Rnd W0 cb lv W ab eb et p w m A l2 bad2 X' := by
  have h1 : ab < X.heap.size := (Array.getElem?_eq_some_iff.1 h.am.at').1
  have h2 : eb < X.heap.size := (Array.getElem?_eq_some_iff.1 h.el).1
  exact ⟨hc, ⟨(hg.block ab h1 (fun e => ha (by injection e with e; exact e.symm))).trans h.am.at'⟩, (hg.block eb h2 (fun e => he (by injection e with e; exact e.symm))).trans h.el, grown_trans h.gr hg⟩
theorem Rnd.keep {W0 : World} {cb : Nat} {lv : Value} {W : World} {ab eb : Nat} {et : TypeId} {p w : Int} {m : Bool} {A : Array Value} {l : Int} {bad : Bool} {X X' : World} (h : Rnd W0 cb lv W ab eb et p w m A l bad X) (hb : Below X.heap.size X X') : Rnd W0 cb lv W ab eb et p w m A l bad X' := by
  have h1 : ab < X.heap.size := (Array.getElem?_eq_some_iff.1 h.am.at').1
  have h2 : eb < X.heap.size := (Array.getElem?_eq_some_iff.1 h.el).1
  exact ⟨h.cnt.keep hb, ⟨(hb.block ab h1).trans h.am.at'⟩, (hb.block eb h2).trans h.el, grown_trans h.gr (below_grown hb)⟩
theorem Rnd.drew {W0 : World} {cb : Nat} {lv : Value} {W : World} {ab eb : Nat} {et : TypeId} {p w : Int} {m : Bool} {A : Array Value} {l : Int} {bad : Bool} {X : World} (h : Rnd W0 cb lv W ab eb et p w m A l bad X) : Rnd W0 cb lv W ab eb et p w m A l bad X.drew :=
  ⟨⟨h.cnt.at', ⟨h.cnt.bel.os, h.cnt.bel.tape, h.cnt.bel.output, h.cnt.bel.size, h.cnt.bel.block⟩, h.cnt.ge⟩, ⟨h.am.at'⟩, h.el, ⟨h.gr.os, h.gr.tape, h.gr.output, h.gr.size, h.gr.block⟩⟩
/-- The amount laid. -/
theorem am_put {W0 : World} {cb : Nat} {lv : Value} {W : World} {ab : Nat} {p w : Int} {m : Bool} {l : Int} {bad : Bool} {X : World} (hc : Cnt W0 cb lv l bad X) (hA : AmAt ab p w m X) (hg : W.grownBy X (some cb)) (ha : cb ≠ ab) (hab : W.heap.size ≤ ab) (h0 : W0.heap.size ≤ ab) (p' w' : Int) (m' : Bool) :
    Cnt W0 cb lv l bad (((X.setCell ⟨ab, 0, none⟩ (.int .i64 p')).setCell ⟨ab, 1, none⟩ (.int .i64 w')).setCell ⟨ab, 2, none⟩ (.bool m')) ∧ AmAt ab p' w' m' (((X.setCell ⟨ab, 0, none⟩ (.int .i64 p')).setCell ⟨ab, 1, none⟩ (.int .i64 w')).setCell ⟨ab, 2, none⟩ (.bool m')) ∧ W.grownBy (((X.setCell ⟨ab, 0, none⟩ (.int .i64 p')).setCell ⟨ab, 1, none⟩ (.int .i64 w')).setCell ⟨ab, 2, none⟩ (.bool m')) (some cb) := by
  have g := grown_trans (grown_trans (setCell_grown X ab 0 (.int .i64 p')) (setCell_grown _ ab 1 (.int .i64 w'))) (setCell_grown _ ab 2 (.bool m'))
  have hb : Below W0.heap.size W0 _ := hc.bel.grown g hc.bel.size (fun k e => by injection e with e; omega)
  refine ⟨⟨(g.block cb hc.lt (fun e => ha (by injection e))).trans hc.at', hb, hc.ge⟩, hA.put p' w' m', grown_new hg g hab⟩
theorem Rnd.four {W0 : World} {cb : Nat} {lv : Value} {W : World} {ab eb : Nat} {et : TypeId} {p w : Int} {m : Bool} {v0 v1 v2 v3 : Value} {l : Int} {bad : Bool} {X : World} (h : Rnd W0 cb lv W ab eb et p w m #[v0, v1, v2, v3] l bad X) :
    X.cell? ⟨eb, 0, none⟩ = some v0 ∧ X.cell? ⟨eb, 1, none⟩ = some v1 ∧ X.cell? ⟨eb, 2, none⟩ = some v2 ∧ X.cell? ⟨eb, 3, none⟩ = some v3 := by
  refine ⟨?_, ?_, ?_, ?_⟩ <;> (rw [cell_of_row _ _ _ _ et (0, 0) h.el]; rfl)
theorem ok_take {b : Bool} {r : Option (Nat × Am)} {l : Int} {bad : Bool} {p w : Int} {m : Bool} {L : Nat} {f : Nat} (h : Res (ok? b r) l bad p w m) (hr : ∀ n a, r = some (n, a) → n ≤ L) (hL : b = false → L < f) : bad = false → 0 ≤ l ∧ l < f := by
  intro hb
  subst hb
  unfold ok? at h
  cases b with
  | true => cases h
  | false =>
    have h : Res r l false p w m := h
    cases r with
    | none => cases h
    | some x =>
      obtain ⟨n, a⟩ := x
      obtain ⟨_, rfl, _⟩ := h
      have h1 := hr n a rfl
      have h2 := hL rfl
      exact ⟨by omega, by omega⟩
theorem take_succ {α : Type} {l : List α} {k : Nat} {x : α} (h : l[k]? = some x) : l.take (k + 1) = l.take k ++ [x] := by
  rw [List.take_add_one, h]; rfl
set_option maxHeartbeats 4000000 in
set_option maxRecDepth 100000 in
theorem all_calls (W0 : World) (cb : Nat) (lv : Value) (add : Adder) (f : Nat) (hf : Fair add) (hadd : AddC W0 cb lv add f) (hF : f ≤ 900000) (W : World) (l : Int) (bad : Bool) (hC : Cnt W0 cb lv l bad W) (hl : bad = false → 0 ≤ l ∧ l < f)
    (a : Option Addr) (tc : Nat) (ts : List Ty) (hn : ts.length ≤ 9223372036854775807) (hts : TysAt W0 a ts) :
    Calls Try.prog 40 #[.pointer (some ⟨cb, 0, none⟩), .slice a ts.length tc] W (Left W0 cb lv (ok? bad (sumS add ts l.toNat ⟨0, 0, false⟩)) W) := by
  obtain ⟨n, hnl⟩ : ∃ n, ts.length = n := ⟨_, rfl⟩
  have HN := Lib.hid hnl
  rw [hnl] at hn
  simp only [hnl]
  clear hnl
  have hcl := hC.lt
  have hCs := hC.bel.size
  go_enter Try.func40, Try.ntmps40
  go_upto_region 1 with fail
  have hA0 : AmAt W.heap.size 0 0 false (W.alloc (.cells #[.int .i64 0, .int .i64 0, .bool false] 55)) := ⟨heap_alloc_new W _⟩
  have hB0 : Below W.heap.size W (W.alloc (.cells #[.int .i64 0, .int .i64 0, .bool false] 55)) := (Below.refl _ _).alloc (Nat.le_refl _) _
  have hC0 := hC.keep hB0
  have hG0 : W.grownBy _ (some cb) := below_grown hB0
  obtain ⟨w1, hw1⟩ : ∃ y, W.alloc (.cells #[.int .i64 0, .int .i64 0, .bool false] 55) = y := ⟨_, rfl⟩
  rw [hw1] at hA0 hC0 hG0
  rw [hw1]
  clear hw1 hB0
  have hR0 : Res (ok? bad (sumS add (ts.take 0) l.toNat ⟨0, 0, false⟩)) l bad 0 0 false := by
    cases bad with
    | true => rfl
    | false => exact ⟨rfl, by have := hl rfl; show l = (l.toNat : Int); omega, rfl, rfl, rfl⟩
  go_wp2
  go_loopw [9] (fun i wr => ∃ (k : Nat) (l' : Int) (bad' : Bool) (p w : Int) (m : Bool), k ≤ n ∧ i = .int .i64 k ∧ Cnt W0 cb lv l' bad' wr ∧ AmAt W.heap.size p w m wr ∧ W.grownBy wr (some cb) ∧ Res (ok? bad (sumS add (ts.take k) l.toNat ⟨0, 0, false⟩)) l' bad' p w m) (fun i _ => n - (intOf i).toNat)
  case atStart => exact ⟨0, l, bad, 0, 0, false, Nat.zero_le _, rfl, hC0, hA0, hG0, hR0⟩
  case round =>
    clear hA0 hC0 hG0 hR0
    have HL := Lib.hid (show bad = false → l.toNat ≤ 900000 from fun hb => by have := hl hb; omega)
    obtain ⟨k, l', bad', p, w, m, hk, rfl, hC1, hA1, hG1, hR1⟩ := hrel
    by_cases hlt : k < n
    · obtain ⟨t, ht⟩ : ∃ t, ts[k]? = some t := ⟨_, List.getElem?_eq_getElem (by have := HN.out; omega)⟩
      obtain ⟨b, o, c0, c1, c2, c3, rfl, x0, x1, x2, x3, hT0⟩ := hts k t ht
      obtain ⟨ea, ec, rfl, rfl, rfl, rfl, _, _⟩ := hT0.inv
      have y0 := keep_cell hC1.bel x0
      have y1 := keep_cell hC1.bel x1
      have y2 := keep_cell hC1.bel x2
      have y3 := keep_cell hC1.bel x3
      have hpre : bad' = false → 0 ≤ l' ∧ l' < f := ok_take (L := l.toNat) hR1 (fun n' a' h => by have := (sumS_fair hf _ _ _ _ _ h).1; simp at this; omega) (fun hb => by have := hl hb; omega)
      go_upto_region 4 with fail
      have hel := heap_alloc_new wr (.cells #[.int .i64 t.kind, .string t.name, .int .i64 t.n, .slice ea t.el.length ec] 26)
      have hB1 : Below wr.heap.size wr (wr.alloc (.cells #[.int .i64 t.kind, .string t.name, .int .i64 t.n, .slice ea t.el.length ec] 26)) := (Below.refl _ _).alloc (Nat.le_refl _) _
      obtain ⟨eb, heb⟩ : ∃ y, wr.heap.size = y := ⟨_, rfl⟩
      obtain ⟨w2, hw2⟩ : ∃ y, wr.alloc (.cells #[.int .i64 t.kind, .string t.name, .int .i64 t.n, .slice ea t.el.length ec] 26) = y := ⟨_, rfl⟩
      have hal : W.heap.size < wr.heap.size := (Array.getElem?_eq_some_iff.1 hA1.at').1
      have hRn : Rnd W0 cb lv W W.heap.size eb 26 p w m #[.int .i64 t.kind, .string t.name, .int .i64 t.n, .slice ea t.el.length ec] l' bad' w2 := by
        rw [← hw2, ← heb]
        exact ⟨hC1.keep hB1, ⟨(hB1.block _ hal).trans hA1.at'⟩, hel, grown_trans hG1 (below_grown hB1)⟩
      rw [hw2, heb]
      have hce : cb ≠ eb := by have := hC1.lt; omega
      have hca : cb ≠ W.heap.size := by omega
      clear hw2 heb hel hB1 y0 y1 y2 y3 x0 x1 x2 x3 hC1 hA1 hG1 hal
      have hSof : ∀ (l : Int) (bad : Bool) (X : World), Rnd W0 cb lv W W.heap.size eb 26 p w m #[.int .i64 t.kind, .string t.name, .int .i64 t.n, .slice ea t.el.length ec] l bad X →
          (X.cell? ⟨W.heap.size, 0, none⟩ = some (.int .i64 p) ∧ X.cell? ⟨W.heap.size, 1, none⟩ = some (.int .i64 w) ∧ X.cell? ⟨W.heap.size, 2, none⟩ = some (.bool m) ∧ X.frozen? ⟨W.heap.size, 0, none⟩ = false ∧ X.frozen? ⟨W.heap.size, 1, none⟩ = false ∧ X.frozen? ⟨W.heap.size, 2, none⟩ = false ∧
           X.cell? ⟨eb, 0, none⟩ = some (.int .i64 t.kind) ∧ X.cell? ⟨eb, 1, none⟩ = some (.string t.name) ∧ X.cell? ⟨eb, 2, none⟩ = some (.int .i64 t.n) ∧ X.cell? ⟨eb, 3, none⟩ = some (.slice ea t.el.length ec)) := fun l bad X h => by
        obtain ⟨q0, q1, q2, q3, q4, q5⟩ := h.am.cells
        obtain ⟨r0, r1, r2, r3⟩ := h.four
        exact ⟨q0, q1, q2, q3, q4, q5, r0, r1, r2, r3⟩
      have hT := hRn.drew
      obtain ⟨q0, q1, q2, q3, q4, q5, r0, r1, r2, r3⟩ := hSof _ _ _ hRn
      have HS := Lib.hid hSof
      clear hSof
      go_region_law (first
        | (go_simp; go_at_call 34; refine (hadd _ l' bad' _ _ _ _ t hT0 hT.cnt hpre).mono ?_; intro e w8 hLf; obtain ⟨l2, bad2, p2, w2', m2, rfl, hC2, hR2⟩ := hLf.ex; have hT8 := hT.call hC2 hLf.grown hca hce; obtain ⟨q0, q1, q2, q3, q4, q5, r0, r1, r2, r3⟩ := HS.out _ _ _ hT8)
        | (go_simp; go_at_call 39; refine (with_calls _ p w p2 w2' m m2).mono ?_; rintro e w9 ⟨rfl, hb9⟩; have hT9 := hT8.keep hb9; obtain ⟨q0, q1, q2, q3, q4, q5, r0, r1, r2, r3⟩ := HS.out _ _ _ hT9))
      all_goals
        obtain ⟨hC3, hA3, hG3⟩ := am_put hT9.cnt hT9.am hT9.gr hca (Nat.le_refl _) hCs (wrap64 (p + p2)) (wrap64 (w + w2')) (m || m2)
        go_wp2
        go_roundw
        case rel => exact ⟨k + 1, l2, bad2, _, _, _, by omega, by go_num, hC3, hA3, hG3, by rw [take_succ ht]; exact res_plus hf (fun hb => by have := HL.out hb; simp; omega) (by simp) hR1 hR2⟩
        case measure => simp [intOf]; omega
    · obtain rfl : k = n := by omega
      obtain ⟨a0, a1, a2, _⟩ := hA1.cells
      go_wp2
      obtain ⟨hC2, hA2, hG2⟩ := am_put hC1 hA1 hG1 (by omega) (Nat.le_refl _) hCs p w m
      generalize (((wr.setCell ⟨W.heap.size, 0, none⟩ (.int .i64 p)).setCell ⟨W.heap.size, 1, none⟩ (.int .i64 w)).setCell ⟨W.heap.size, 2, none⟩ (.bool m)) = wf at hC2 hA2 hG2 ⊢
      obtain ⟨b0, b1, b2, _⟩ := hA2.cells
      have e : ts.take k = ts := List.take_of_length_le (by have := HN.out; omega)
      rw [e] at hR1
      exact bodyPost_ret (v := .agg #[.int .i64 p, .int .i64 w, .bool m]) (by simp [results, Try.results40, go_sem, b0, b1, b2]) rfl ⟨⟨l', bad', p, w, m, rfl, hC2, hR1⟩, hG2⟩
end Go.Proofs.Ytioediibbgklcaa.W
