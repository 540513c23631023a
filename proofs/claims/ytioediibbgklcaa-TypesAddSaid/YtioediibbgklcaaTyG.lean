/- counter.array: an array's type counted. -/
import Derived.Test.YtioediibbgklcaaTyF
namespace Go.Proofs.Ytioediibbgklcaa.W
open Go Go.RowKit Go.Proofs
set_option linter.unusedVariables false
set_option linter.unusedSimpArgs false
theorem sumS_none {add : Adder} {us : List Ty} : ∀ {ts : List Ty} {l : Nat} {a : Am}, sumS add ts l a = none → sumS add (ts ++ us) l a = none
  | [], l, a, h => by simp [sumS] at h
  | t :: ts, l, a, h => by
    simp only [List.cons_append, sumS] at h ⊢
    cases hd : add l t with
    | none => rfl
    | some x => obtain ⟨x, y⟩ := x; rw [hd] at h; simp only at h ⊢; exact sumS_none h
theorem rep_snoc {α : Type} (k : Nat) (x : α) : List.replicate (k + 1) x = List.replicate k x ++ [x] := by
  exact List.replicate_succ'
theorem AmAt.keepg {b g : Nat} {p w : Int} {m : Bool} {X X' : World} (h : AmAt b p w m X) (hg : X.grownBy X' (some g)) (hne : b ≠ g) : AmAt b p w m X' :=
  ⟨(hg.block b (Array.getElem?_eq_some_iff.1 h.at').1 (fun e => hne (by injection e))).trans h.at'⟩
theorem AmAt.keep {b : Nat} {p w : Int} {m : Bool} {X X' : World} (h : AmAt b p w m X) (hg : Below X.heap.size X X') : AmAt b p w m X' :=
  ⟨(hg.block b (Array.getElem?_eq_some_iff.1 h.at').1).trans h.at'⟩
theorem puts_grown (X : World) (ab : Nat) (v0 v1 v2 : Value) : X.grownBy (((X.setCell ⟨ab, 0, none⟩ v0).setCell ⟨ab, 1, none⟩ v1).setCell ⟨ab, 2, none⟩ v2) (some ab) :=
  grown_trans (grown_trans (setCell_grown X ab 0 v0) (setCell_grown _ ab 1 v1)) (setCell_grown _ ab 2 v2)
set_option maxHeartbeats 4000000 in
set_option maxRecDepth 100000 in
theorem array_calls (W0 : World) (cb : Nat) (lv : Value) (add : Adder) (f : Nat) (hf : Fair add) (hadd : AddC W0 cb lv add f) (hF : f ≤ 900000) (W : World) (l : Int) (hC : Cnt W0 cb lv l false W) (hl : 0 ≤ l ∧ l < f)
    (t : Ty) (ea : Option Addr) (ec : Nat) (e : Ty) (es : List Ty) (hel : t.el = e :: es) (hn : t.el.length ≤ 9223372036854775807) (hts : TysAt W0 ea t.el) :
    Calls Try.prog 38 #[.pointer (some ⟨cb, 0, none⟩), .agg #[.int .i64 t.kind, .string t.name, .int .i64 t.n, .slice ea t.el.length ec]] W (Left W0 cb lv (sumS add (List.replicate t.n.toNat e) l.toNat ⟨1, 0, false⟩) W) := by
  obtain ⟨b, o, c0, c1, c2, c3, rfl, x0, x1, x2, x3, hT0⟩ := hts 0 e (by rw [hel]; rfl)
  obtain ⟨fa, fc, rfl, rfl, rfl, rfl, _, _⟩ := hT0.inv
  have hlen : 0 < t.el.length := by rw [hel]; simp
  obtain ⟨n, hnl⟩ : ∃ n, t.el.length = n := ⟨_, rfl⟩
  rw [hnl] at hn hlen ⊢
  clear hnl hts
  have hcl := hC.lt
  have hCs := hC.bel.size
  simp only [Nat.zero_mul, Nat.add_zero] at x0 x1 x2 x3
  go_enter Try.func38, Try.ntmps38
  go_upto_region 2 with fail
  have hb1 : Below W.heap.size W (W.alloc (.cells #[.int .i64 t.kind, .string t.name, .int .i64 t.n, .slice (some ⟨b, o, none⟩) n ec] 26)) := (Below.refl _ _).alloc (Nat.le_refl _) _
  have hT1 := heap_alloc_new W (.cells #[.int .i64 t.kind, .string t.name, .int .i64 t.n, .slice (some ⟨b, o, none⟩) n ec] 26)
  obtain ⟨w1, hw1⟩ : ∃ y, W.alloc (.cells #[.int .i64 t.kind, .string t.name, .int .i64 t.n, .slice (some ⟨b, o, none⟩) n ec] 26) = y := ⟨_, rfl⟩
  have hs1 : w1.heap.size = W.heap.size + 1 := by rw [← hw1]; simp
  rw [hw1] at hb1 hT1 ⊢
  have hb2 : Below w1.heap.size w1 (w1.alloc (.cells #[.int .i64 0, .int .i64 0, .bool false] 55)) := (Below.refl _ _).alloc (Nat.le_refl _) _
  have hR2 : AmAt w1.heap.size 0 0 false (w1.alloc (.cells #[.int .i64 0, .int .i64 0, .bool false] 55)) := ⟨heap_alloc_new w1 _⟩
  obtain ⟨w2, hw2⟩ : ∃ y, w1.alloc (.cells #[.int .i64 0, .int .i64 0, .bool false] 55) = y := ⟨_, rfl⟩
  have hs2 : w2.heap.size = W.heap.size + 2 := by rw [← hw2]; simp [hs1]
  rw [hw2] at hb2 hR2 ⊢
  have hb3 : Below w2.heap.size w2 (w2.alloc (.cells #[.int .i64 1, .int .i64 0, .bool false] 55)) := (Below.refl _ _).alloc (Nat.le_refl _) _
  have hA3 : AmAt w2.heap.size 1 0 false (w2.alloc (.cells #[.int .i64 1, .int .i64 0, .bool false] 55)) := ⟨heap_alloc_new w2 _⟩
  obtain ⟨w3, hw3⟩ : ∃ y, w2.alloc (.cells #[.int .i64 1, .int .i64 0, .bool false] 55) = y := ⟨_, rfl⟩
  rw [hw3] at hb3 hA3 ⊢
  have hB2 : Below W.heap.size W w2 := hb1.trans (hb2.mono hb1.size)
  have hB3 : Below W.heap.size W w3 := hB2.trans (hb3.mono hB2.size)
  have hT3 := ((hb3.block W.heap.size (by omega)).trans (hb2.block W.heap.size (by omega))).trans hT1
  have hR3 := hR2.keep hb3
  have hC3 := hC.keep hB3
  rw [hs1] at hR3
  rw [hs2] at hA3
  have hRn : Rnd W0 cb lv W (W.heap.size + 2) W.heap.size 26 1 0 false #[.int .i64 t.kind, .string t.name, .int .i64 t.n, .slice (some ⟨b, o, none⟩) n ec] l false w3 := ⟨hC3, hA3, hT3, below_grown hB3⟩
  have hR0 : Res (ok? false (sumS add (List.replicate 0 e) l.toNat ⟨1, 0, false⟩)) l false 1 0 false := ⟨rfl, by show l = (l.toNat : Int); omega, rfl, rfl, rfl⟩
  clear hw1 hw2 hw3 hb1 hb2 hb3 hs1 hs2 hT1 hT3 hR2 hA3 hC3 hB2 hB3
  have hT' := Lib.hid (⟨by omega, by omega⟩ : cb ≠ W.heap.size + 1 + 1 ∧ cb ≠ W.heap.size + 1)
  obtain ⟨rb, hrb⟩ : ∃ y, W.heap.size + 1 = y := ⟨_, rfl⟩
  obtain ⟨ab, hab⟩ : ∃ y, rb + 1 = y := ⟨_, rfl⟩
  rw [show W.heap.size + 2 = ab by omega] at hRn
  rw [hrb] at hR3
  rw [hrb, hab]
  have hcr : cb ≠ rb := by omega
  have hca : cb ≠ ab := by omega
  have hra : rb ≠ ab := by omega
  have hct : cb ≠ W.heap.size := by omega
  have hta : W.heap.size ≠ ab := by omega
  have hWa : W.heap.size ≤ ab := by omega
  have hWr : W.heap.size ≤ rb := by omega
  clear hT' hrb hab
  go_wp2
  go_loopw [6] (fun i wr => ∃ (k : Nat) (l' : Int) (bad' : Bool) (p w : Int) (m : Bool), i = .int .i64 k ∧ (k : Int) ≤ 900001 ∧ k ≤ t.n.toNat ∧ Rnd W0 cb lv W ab W.heap.size 26 p w m #[.int .i64 t.kind, .string t.name, .int .i64 t.n, .slice (some ⟨b, o, none⟩) n ec] l' bad' wr ∧ AmAt rb 0 0 false wr ∧ Res (ok? false (sumS add (List.replicate k e) l.toNat ⟨1, 0, false⟩)) l' bad' p w m) (fun i _ => 900001 - (intOf i).toNat)
  case atStart => exact ⟨0, l, false, 1, 0, false, rfl, by omega, Nat.zero_le _, hRn, hR3, hR0⟩
  case round =>
    clear hRn hR3 hR0
    have HL := Lib.hid hl
    obtain ⟨k, l', bad', p, w, m, rfl, hk, hkn, hRn, hR, hRes⟩ := hrel
    obtain ⟨r0, r1, r2, r3⟩ := hRn.four
    obtain ⟨q0, q1, q2, q3, q4, q5⟩ := hRn.am.cells
    obtain ⟨d0, d1, d2, d3, d4⟩ := hRn.cnt.cells
    obtain ⟨z0, z1, z2, z3, z4, z5⟩ := hR.cells
    cases bad' with
    | true =>
      have hno : sumS add (List.replicate k e) l.toNat ⟨1, 0, false⟩ = none := by
        cases hs : sumS add (List.replicate k e) l.toNat ⟨1, 0, false⟩ with
        | none => rfl
        | some x => rw [hs] at hRes; obtain ⟨h, _⟩ := hRes; cases h
      have hno2 : sumS add (List.replicate t.n.toNat e) l.toNat ⟨1, 0, false⟩ = none := by
        have e1 : List.replicate t.n.toNat e = List.replicate k e ++ List.replicate (t.n.toNat - k) e := by
          rw [List.replicate_append_replicate]; congr 1; omega
        rw [e1]; exact sumS_none hno
      rw [hno2]
      obtain ⟨hC2, hA2, hG2⟩ := am_put hRn.cnt hR hRn.gr hcr hWr (by omega) p w m
      go_wp2
      all_goals
        generalize (((wr.setCell ⟨rb, 0, none⟩ (.int .i64 p)).setCell ⟨rb, 1, none⟩ (.int .i64 w)).setCell ⟨rb, 2, none⟩ (.bool m)) = wf at hC2 hA2 hG2 ⊢
        obtain ⟨b0, b1, b2, _⟩ := hA2.cells
        exact bodyPost_ret (v := .agg #[.int .i64 p, .int .i64 w, .bool m]) (by simp [results, Try.results38, go_sem, b0, b1, b2]) rfl ⟨⟨l', true, p, w, m, rfl, hC2, by first | rfl | (rw [hno2]; rfl)⟩, hG2⟩
    | false =>
      by_cases hlt : k < t.n.toNat
      · have hlt2 : (k : Int) < t.n := by omega
        have hpre : false = false → 0 ≤ l' ∧ l' < f := ok_take (b := false) (L := l.toNat) hRes (fun n' a' h => by have := sumS_fair hf _ _ _ _ _ h; simp at this; omega) (fun _ => by have := HL.out; omega)
        have hkl : k ≤ l.toNat := by
          cases hs : sumS add (List.replicate k e) l.toNat ⟨1, 0, false⟩ with
          | none => rw [hs] at hRes; cases hRes
          | some x =>
            obtain ⟨n', a'⟩ := x
            have := sumS_fair hf _ _ _ _ _ hs
            simp at this
            omega
        have hSof : ∀ (l : Int) (bad : Bool) (X : World), Rnd W0 cb lv W ab W.heap.size 26 p w m #[.int .i64 t.kind, .string t.name, .int .i64 t.n, .slice (some ⟨b, o, none⟩) n ec] l bad X →
            (X.cell? ⟨ab, 0, none⟩ = some (.int .i64 p) ∧ X.cell? ⟨ab, 1, none⟩ = some (.int .i64 w) ∧ X.cell? ⟨ab, 2, none⟩ = some (.bool m) ∧ X.frozen? ⟨ab, 0, none⟩ = false ∧ X.frozen? ⟨ab, 1, none⟩ = false ∧ X.frozen? ⟨ab, 2, none⟩ = false ∧
             X.cell? ⟨W.heap.size, 3, none⟩ = some (.slice (some ⟨b, o, none⟩) n ec) ∧ X.cell? ⟨b, o, none⟩ = some (.int .i64 e.kind) ∧ X.cell? ⟨b, o + 1, none⟩ = some (.string e.name) ∧ X.cell? ⟨b, o + 2, none⟩ = some (.int .i64 e.n) ∧ X.cell? ⟨b, o + 3, none⟩ = some (.slice fa e.el.length fc)) := fun l bad X h => by
          obtain ⟨q0, q1, q2, q3, q4, q5⟩ := h.am.cells
          obtain ⟨r0, r1, r2, r3⟩ := h.four
          exact ⟨q0, q1, q2, q3, q4, q5, r3, keep_cell h.cnt.bel x0, keep_cell h.cnt.bel x1, keep_cell h.cnt.bel x2, keep_cell h.cnt.bel x3⟩
        go_upto_region 5 with fail
        clear r0 r1 r2 r3 q0 q1 q2 q3 q4 q5 d0 d1 d2 d3 d4 z0 z1 z2 z3 z4 z5
        have hT := hRn.drew
        obtain ⟨q0, q1, q2, q3, q4, q5, r3, y0, y1, y2, y3⟩ := hSof _ _ _ hRn
        have HS := Lib.hid hSof
        have HR := Lib.hid hR
        clear hSof x0 x1 x2 x3 hR
        go_region_law (first
          | (go_simp; go_at_call 34; refine (hadd _ l' false _ _ _ _ e hT0 hT.cnt hpre).mono ?_; intro e8 w8 hLf; obtain ⟨l2, bad2, p2, w2', m2, rfl, hC2, hR2⟩ := hLf.ex; have hG8 := hLf.grown; have hT8 := hT.call hC2 hLf.grown hca hct; obtain ⟨q0, q1, q2, q3, q4, q5, r3, y0, y1, y2, y3⟩ := HS.out _ _ _ hT8)
          | (go_simp; go_at_call 39; refine (with_calls _ p w p2 w2' m m2).mono ?_; rintro e9 w9 ⟨rfl, hb9⟩; have hT9 := hT8.keep hb9; obtain ⟨q0, q1, q2, q3, q4, q5, r3, y0, y1, y2, y3⟩ := HS.out _ _ _ hT9))
        all_goals
          obtain ⟨hC3, hA3, hG3⟩ := am_put hT9.cnt hT9.am hT9.gr hca hWa (by omega) (wrap64 (p + p2)) (wrap64 (w + w2')) (m || m2)
          have hpg := puts_grown w9 ab (.int .i64 (wrap64 (p + p2))) (.int .i64 (wrap64 (w + w2'))) (.bool (m || m2))
          have htl : W.heap.size < w9.heap.size := (Array.getElem?_eq_some_iff.1 hT9.el).1
          have hR9 := ((HR.out.keepg (X := wr) (g := cb) ⟨hG8.os, hG8.tape, hG8.output, hG8.size, hG8.block⟩ (fun h => hcr h.symm)).keep hb9).keepg hpg hra
          have hel3 := (hpg.block W.heap.size htl (fun h => hta (by injection h))).trans hT9.el
          go_wp2
          go_roundw
          case rel => exact ⟨k + 1, l2, bad2, _, _, _, by go_num, by have := HL.out; omega, by omega, ⟨hC3, hA3, hel3, hG3⟩, hR9, by rw [rep_snoc]; exact res_plus hf (fun _ => by have := HL.out; simp; omega) (by simp) hRes hR2⟩
          case measure => simp [intOf]; omega
      · obtain rfl : k = t.n.toNat := by omega
        have hnl2 : ¬ ((t.n.toNat : Int) < t.n) := by omega
        obtain ⟨hC2, hA2, hG2⟩ := am_put hRn.cnt hR hRn.gr hcr hWr (by omega) p w m
        go_wp2
        all_goals
          generalize (((wr.setCell ⟨rb, 0, none⟩ (.int .i64 p)).setCell ⟨rb, 1, none⟩ (.int .i64 w)).setCell ⟨rb, 2, none⟩ (.bool m)) = wf at hC2 hA2 hG2 ⊢
          obtain ⟨b0, b1, b2, _⟩ := hA2.cells
          exact bodyPost_ret (v := .agg #[.int .i64 p, .int .i64 w, .bool m]) (by simp [results, Try.results38, go_sem, b0, b1, b2]) rfl ⟨⟨l', false, p, w, m, rfl, hC2, hRes⟩, hG2⟩
end Go.Proofs.Ytioediibbgklcaa.W
