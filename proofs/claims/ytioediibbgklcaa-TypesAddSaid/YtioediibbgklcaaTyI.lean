/- counter.named: a struct or an enum counted. -/
import Derived.Test.YtioediibbgklcaaTyH
namespace Go.Proofs.Ytioediibbgklcaa.W
open Go Go.RowKit Go.Proofs
set_option linter.unusedVariables false
set_option linter.unusedSimpArgs false
def endE : Option (Nat × Nat × Am) → Option (Nat × Am)
  | none => none
  | some (l', most, a) => some (l', ⟨a.parts, most + 1, a.moves⟩)
def namedS (add : Adder) (its : List It) (l : Nat) (t : Ty) : Option (Nat × Am) := match itemOf its t with
  | none => none
  | some it => if it.kind = 2 then sumS add (it.ps.map Prod.snd) l ⟨1, 0, false⟩ else
    endE (enumS add (it.vs.map Prod.snd) l 0 ⟨1, 0, false⟩)
theorem enumS_snoc (add : Adder) (v : List Ty) : ∀ (vs : List (List Ty)) (l mo : Nat) (a : Am), enumS add (vs ++ [v]) l mo a = match enumS add vs l mo a with
    | none => none
    | some (l', m', b) => match sumS add v l' ⟨0, 0, false⟩ with
      | none => none
      | some (l2, c) => some (l2, max m' c.words, b.plus c)
  | [], l, mo, a => by
    simp only [List.nil_append, enumS]
    cases sumS add v l ⟨0, 0, false⟩ with
    | none => rfl
    | some x => obtain ⟨x, y⟩ := x; rfl
  | u :: vs, l, mo, a => by
    simp only [List.cons_append, enumS]
    cases sumS add u l ⟨0, 0, false⟩ with
    | none => rfl
    | some x => obtain ⟨x, y⟩ := x; simp only; exact enumS_snoc add v vs x _ _
/-- What a count over variants came to. -/
def ResE (r : Option (Nat × Nat × Am)) (l : Int) (bad : Bool) (mv p w : Int) (m : Bool) : Prop := match r with
  | some (n, mo, a) => bad = false ∧ l = n ∧ mv = mo ∧ p = a.parts ∧ w = a.words ∧ m = a.moves
  | none => bad = true
theorem resE_plus {add : Adder} (hf : Fair add) {vs : List (List Ty)} {v : List Ty} {l0 : Nat} {a0 : Am} {l l2 : Int} {bad bad2 : Bool} {mv p w p2 w2 : Int} {m m2 : Bool} (hL : l0 + a0.parts ≤ 1000000) (ha : a0.words ≤ 2 * a0.parts) (hw : ∀ l' m' b, enumS add vs l0 0 a0 = some (l', m', b) → b.words ≤ 2 * b.parts)
    (h1 : ResE (enumS add vs l0 0 a0) l bad mv p w m) (h2 : Res (ok? bad (sumS add v l.toNat ⟨0, 0, false⟩)) l2 bad2 p2 w2 m2) : ResE (enumS add (vs ++ [v]) l0 0 a0) l2 bad2 (max mv w2) (wrap64 (p + p2)) (wrap64 (w + w2)) (m || m2) := by
  rw [enumS_snoc]
  cases hs : enumS add vs l0 0 a0 with
  | none =>
    rw [hs] at h1
    have h1 : bad = true := h1
    subst h1
    exact h2
  | some x =>
    obtain ⟨n, mo, a⟩ := x
    have hwa := hw _ _ _ hs
    rw [hs] at h1
    obtain ⟨rfl, rfl, rfl, rfl, rfl, rfl⟩ := h1
    have e0 : ∀ r, ok? false r = r := fun r => rfl
    rw [e0] at h2
    simp only [Int.toNat_natCast] at h2
    obtain ⟨f1, f2, _⟩ := enumS_fair hf _ _ _ _ _ _ _ hs
    simp only
    cases hd : sumS add v n ⟨0, 0, false⟩ with
    | none => rw [hd] at h2; exact h2
    | some y =>
      obtain ⟨n2, c⟩ := y
      rw [hd] at h2
      obtain ⟨rfl, rfl, rfl, rfl, rfl⟩ := h2
      obtain ⟨g1, g2, _⟩ := sumS_fair hf _ _ _ _ _ hd
      simp only at g1 g2
      have k1 : -9223372036854775808 ≤ (a.parts : Int) + c.parts ∧ (a.parts : Int) + c.parts ≤ 9223372036854775807 := by omega
      have k2 : -9223372036854775808 ≤ (a.words : Int) + c.words ∧ (a.words : Int) + c.words ≤ 9223372036854775807 := by omega
      rw [IntWalk.wrap64_in _ k1, IntWalk.wrap64_in _ k2]
      exact ⟨rfl, rfl, by omega, by simp [Am.plus], by simp [Am.plus], rfl⟩
theorem res_end {r : Option (Nat × Nat × Am)} {l : Int} {bad : Bool} {mv p w : Int} {m : Bool} (h : ResE r l bad mv p w m) (hb : ∀ n mo a, r = some (n, mo, a) → mo ≤ 4000000) :
    Res (endE r) l bad p (wrap64 (mv + 1)) m := by
  cases r with
  | none => exact h
  | some x =>
    obtain ⟨n, mo, a⟩ := x
    obtain ⟨rfl, rfl, rfl, rfl, rfl, rfl⟩ := h
    have := hb n mo a rfl
    have k1 : -9223372036854775808 ≤ (mo : Int) + 1 ∧ (mo : Int) + 1 ≤ 9223372036854775807 := by omega
    rw [IntWalk.wrap64_in _ k1]
    exact ⟨rfl, rfl, rfl, by simp, rfl⟩
theorem okE_take {r : Option (Nat × Nat × Am)} {l : Int} {bad : Bool} {mv p w : Int} {m : Bool} {L f : Nat} (h : ResE r l bad mv p w m) (hr : ∀ n mo a, r = some (n, mo, a) → n ≤ L) (hL : L < f) : bad = false → 0 ≤ l ∧ l < f := by
  intro hb
  subst hb
  cases r with
  | none => cases h
  | some x =>
    obtain ⟨n, mo, a⟩ := x
    obtain ⟨_, rfl, _⟩ := h
    have := hr n mo a rfl
    exact ⟨by omega, by omega⟩
theorem AmAt.put1 {b : Nat} {p w : Int} {m : Bool} {X : World} (h : AmAt b p w m X) (w' : Int) : AmAt b p w' m (X.setCell ⟨b, 1, none⟩ (.int .i64 w')) := ⟨heap_setCell_same _ b 1 _ 55 _ h.at'⟩
theorem enumS_words {add : Adder} (h : Fair add) : ∀ (vs : List (List Ty)) (l mo : Nat) (a : Am) (l' m' : Nat) (b : Am), enumS add vs l mo a = some (l', m', b) → b.words + 2 * a.parts ≤ a.words + 2 * b.parts
  | [], l, mo, a, l', m', b, e => by simp only [enumS, Option.some.injEq, Prod.mk.injEq] at e; obtain ⟨rfl, rfl, rfl⟩ := e; exact Nat.le_refl _
  | v :: vs, l, mo, a, l', m', b, e => by
    simp only [enumS] at e
    split at e
    · simp at e
    · rename_i l1 c hc
      obtain ⟨h1, h2, _⟩ := sumS_fair h v _ _ _ _ hc
      have h3 := enumS_words h vs _ _ _ _ _ _ e
      simp only [Am.plus] at h1 h2 h3
      omega
theorem Cnt.spoil {W0 w : World} {cb : Nat} {lv : Value} {l : Int} {bad : Bool} (h : Cnt W0 cb lv l bad w) (b : Bool) : Cnt W0 cb lv l b (w.setCell ⟨cb, 2, none⟩ (.bool b)) :=
  ⟨heap_setCell_same w cb 2 _ 74 (.bool b) h.at', h.bel.grown (setCell_grown w cb 2 _) h.bel.size (fun g e => by injection e with e; have := h.ge; omega), h.ge⟩
theorem Rnd.mid {W0 : World} {cb : Nat} {lv : Value} {W : World} {ab eb : Nat} {et : TypeId} {p w : Int} {m : Bool} {v0 v1 v2 v3 v4 v5 v6 : Value} {l : Int} {bad : Bool} {X : World} (h : Rnd W0 cb lv W ab eb et p w m #[v0, v1, v2, v3, v4, v5, v6] l bad X) :
    X.cell? ⟨eb, 2, none⟩ = some v2 ∧ X.cell? ⟨eb, 3, none⟩ = some v3 ∧ X.cell? ⟨eb, 4, none⟩ = some v4 ∧ X.cell? ⟨eb, 5, none⟩ = some v5 := by
  refine ⟨?_, ?_, ?_, ?_⟩ <;> (rw [cell_of_row _ _ _ _ et (0, 0) h.el]; rfl)
set_option maxHeartbeats 4000000 in
set_option maxRecDepth 100000 in
theorem named_calls (W0 : World) (cb : Nat) (la : Option Addr) (its : List It) (lc : Nat) (hn : its.length ≤ 9223372036854775807) (hI : ItsAt W0 la its) (add : Adder) (f : Nat) (hf : Fair add) (hadd : AddC W0 cb (.slice la its.length lc) add f) (hF : f ≤ 900000)
    (W : World) (l : Int) (hC : Cnt W0 cb (.slice la its.length lc) l false W) (hl : 0 ≤ l ∧ l < f) (t : Ty) (ea : Option Addr) (el ec : Nat) :
    Calls Try.prog 37 #[.pointer (some ⟨cb, 0, none⟩), .agg #[.int .i64 t.kind, .string t.name, .int .i64 t.n, .slice ea el ec]] W (Left W0 cb (.slice la its.length lc) (namedS add its l.toNat t) W) := by
  have hcl := hC.lt
  have hCs := hC.bel.size
  go_enter Try.func37, Try.ntmps37
  go_upto_region 1 with fail
  have hb1 : Below W.heap.size W (W.alloc (.cells #[.int .i64 t.kind, .string t.name, .int .i64 t.n, .slice ea el ec] 26)) := (Below.refl _ _).alloc (Nat.le_refl _) _
  have hT1 := heap_alloc_new W (.cells #[.int .i64 t.kind, .string t.name, .int .i64 t.n, .slice ea el ec] 26)
  obtain ⟨w1, hw1⟩ : ∃ y, W.alloc (.cells #[.int .i64 t.kind, .string t.name, .int .i64 t.n, .slice ea el ec] 26) = y := ⟨_, rfl⟩
  have hs1 : w1.heap.size = W.heap.size + 1 := by rw [← hw1]; simp
  rw [hw1] at hb1 hT1 ⊢
  have hb2 : Below w1.heap.size w1 (w1.alloc (.cells #[.int .i64 0, .int .i64 0, .bool false] 55)) := (Below.refl _ _).alloc (Nat.le_refl _) _
  have hR2 : AmAt w1.heap.size 0 0 false (w1.alloc (.cells #[.int .i64 0, .int .i64 0, .bool false] 55)) := ⟨heap_alloc_new w1 _⟩
  obtain ⟨w2, hw2⟩ : ∃ y, w1.alloc (.cells #[.int .i64 0, .int .i64 0, .bool false] 55) = y := ⟨_, rfl⟩
  have hs2 : w2.heap.size = W.heap.size + 2 := by rw [← hw2]; simp [hs1]
  rw [hw2] at hb2 hR2 ⊢
  have hB2 : Below W.heap.size W w2 := hb1.trans (hb2.mono hb1.size)
  have hT2 := (hb2.block W.heap.size (by omega)).trans hT1
  have hC2 := hC.keep hB2
  rw [hs1] at hR2
  clear hw1 hw2 hb1 hb2 hs1 hT1
  refine wp_onN (region37_1 _ _ _ _ _ _ _ _ _ _ _ _ _ _ _ _ _ _ _ _ _ _ _ _ _ _ _ _ _ _ _ _ _ _ _ _ _ _ _ _ _ _ _ _ _ _ _ _ _ _ _ _ _ _ _ _ _ _ _ _ _ _ _ _ _ _ _ _ _ cb W.heap.size W0 w2 la its lc hn hI l false hC2 t ea el ec hT2) ?_
  intro a w3 hH
  obtain ⟨nb, found, s14, s15, s16, s17, s18, s19, s20, s21, s22, rfl, hP⟩ := hH.out
  have hC3 := hC2.keep hP.bel
  have hR3 := hR2.keep hP.bel
  have hG3 : W.grownBy w3 (some cb) := grown_trans (below_grown hB2) (below_grown hP.bel)
  have hnb := hP.ge
  have hnl := hP.lt
  have hs3 := hP.bel.size
  obtain ⟨rb, hrb⟩ : ∃ y, W.heap.size + 1 = y := ⟨_, rfl⟩
  rw [hrb] at hR3 ⊢
  have hcr : cb ≠ rb := by omega
  have hWr : W.heap.size ≤ rb := by omega
  have hrl : rb < w3.heap.size := by omega
  have hcn : cb ≠ nb := by omega
  cases hio : itemOf its t with
  | none =>
    obtain rfl := hP.no hio
    have hns : namedS add its l.toNat t = none := by unfold namedS; rw [hio]
    rw [hns]
    obtain ⟨d0, d1, d2, d3, d4⟩ := hC3.cells
    have hC4 := hC3.spoil true
    have hg4 := setCell_grown w3 cb 2 (.bool true)
    have hR4 := hR3.keepg hg4 (fun h => hcr h.symm)
    have hG4 := grown_trans hG3 hg4
    obtain ⟨hC5, hA5, hG5⟩ := am_put hC4 hR4 hG4 hcr hWr (by omega) 0 0 false
    obtain ⟨z0, z1, z2, z3, z4, z5⟩ := hR4.cells
    go_wp2
    generalize (((((w3.setCell ⟨cb, 2, none⟩ (.bool true)).setCell ⟨rb, 0, none⟩ (.int .i64 0)).setCell ⟨rb, 1, none⟩ (.int .i64 0)).setCell ⟨rb, 2, none⟩ (.bool false))) = wf at hC5 hA5 hG5 ⊢
    obtain ⟨b0, b1, b2, _⟩ := hA5.cells
    exact bodyPost_ret (v := .agg #[.int .i64 0, .int .i64 0, .bool false]) (by simp [results, Try.results37, go_sem, b0, b1, b2]) rfl ⟨⟨l, true, 0, 0, false, rfl, hC5, rfl⟩, hG5⟩
  | some it =>
    obtain ⟨rfl, cs, hIt, hcs⟩ := hP.yes it hio
    obtain ⟨pa, pc, va, vc, tl, rfl, hpn, hvn, hPs, hVs⟩ := hIt.ex
    have k0 : w3.cell? ⟨nb, 0, none⟩ = some (.int .i64 it.kind) := hcs 0 (by omega)
    have k3 : w3.cell? ⟨nb, 3, none⟩ = some (.slice pa it.ps.length pc) := hcs 3 (by omega)
    have k4 : w3.cell? ⟨nb, 4, none⟩ = some (.slice va it.vs.length vc) := hcs 4 (by omega)
    go_upto_region 6 with fail
    have hb4 : Below w3.heap.size w3 (w3.alloc (.cells #[.int .i64 1, .int .i64 0, .bool false] 55)) := (Below.refl _ _).alloc (Nat.le_refl _) _
    have hA4 : AmAt w3.heap.size 1 0 false (w3.alloc (.cells #[.int .i64 1, .int .i64 0, .bool false] 55)) := ⟨heap_alloc_new w3 _⟩
    obtain ⟨w4, hw4⟩ : ∃ y, w3.alloc (.cells #[.int .i64 1, .int .i64 0, .bool false] 55) = y := ⟨_, rfl⟩
    have hs4 : w4.heap.size = w3.heap.size + 1 := by rw [← hw4]; simp
    rw [hw4] at hb4 hA4 ⊢
    obtain ⟨ab, hab⟩ : ∃ y, w3.heap.size = y := ⟨_, rfl⟩
    have m0 := (hb4.cell (p := ⟨nb, 0, none⟩) hnl).trans k0
    have m3 := (hb4.cell (p := ⟨nb, 3, none⟩) hnl).trans k3
    have m4 := (hb4.cell (p := ⟨nb, 4, none⟩) hnl).trans k4
    have hC4 := hC3.keep hb4
    have hR4 := hR3.keep hb4
    have hG4 : W.grownBy w4 (some cb) := grown_trans hG3 (below_grown hb4)
    rw [hab] at hA4 ⊢
    have hca : cb ≠ ab := by omega
    have hra : rb ≠ ab := by omega
    have hWa : W.heap.size ≤ ab := by omega
    have hR0 : Res (ok? false (some (l.toNat, (⟨1, 0, false⟩ : Am)))) l false 1 0 false := ⟨rfl, by show l = (l.toNat : Int); omega, rfl, rfl, rfl⟩
    have HIO := Lib.hid hio
    clear hio hcs k0 k3 k4 hb4 hw4 hIt hP hC3 hC2 hR3 hR2 hG3 hT2 hB2
    by_cases h2 : it.kind = 2
    · have hns : namedS add its l.toNat t = sumS add (it.ps.map Prod.snd) l.toNat ⟨1, 0, false⟩ := by unfold namedS; rw [HIO.out]; simp only [if_pos h2]
      have HNS := Lib.hid hns
      obtain ⟨n, hnn⟩ : ∃ n, it.ps.length = n := ⟨_, rfl⟩
      have HN := Lib.hid hnn
      rw [hnn] at hpn m3
      clear hnn hns hVs hvn
      go_wp2
      go_loopw [36] (fun i wr => ∃ (k : Nat) (l' : Int) (bad' : Bool) (p w : Int) (m : Bool), k ≤ n ∧ i = .int .i64 k ∧ Cnt W0 cb (.slice la its.length lc) l' bad' wr ∧ AmAt ab p w m wr ∧ AmAt rb 0 0 false wr ∧ W.grownBy wr (some cb) ∧ Res (ok? false (sumS add ((it.ps.map Prod.snd).take k) l.toNat ⟨1, 0, false⟩)) l' bad' p w m) (fun i _ => n - (intOf i).toNat)
      case atStart => exact ⟨0, l, false, 1, 0, false, Nat.zero_le _, rfl, hC4, hA4, hR4, hG4, hR0⟩
      case round =>
        clear hA4 hC4 hG4 hR0 hR4 m0 m3 m4
        have HL := Lib.hid hl
        obtain ⟨k, l', bad', p, w, m, hk, rfl, hC1, hA1, hR1, hG1, hRes⟩ := hrel
        by_cases hlt : k < n
        · obtain ⟨pr, hpr⟩ : ∃ pr, it.ps[k]? = some pr := ⟨_, List.getElem?_eq_getElem (by have := HN.out; omega)⟩
          have htk : (it.ps.map Prod.snd)[k]? = some pr.2 := by rw [List.getElem?_map, hpr]; rfl
          obtain ⟨b, o, mu, x, c0, c1, c2, c3, rfl, x0, x1, x2, x3, x4, x5, x6, hT0⟩ := hPs k pr hpr
          obtain ⟨fa, fc, rfl, rfl, rfl, rfl, _, _⟩ := hT0.inv
          have y0 := keep_cell hC1.bel x0
          have y1 := keep_cell hC1.bel x1
          have y2 := keep_cell hC1.bel x2
          have y3 := keep_cell hC1.bel x3
          have y4 := keep_cell hC1.bel x4
          have y5 := keep_cell hC1.bel x5
          have y6 := keep_cell hC1.bel x6
          have hpre : bad' = false → 0 ≤ l' ∧ l' < f := ok_take (L := l.toNat) hRes (fun n' a' h => by have := sumS_fair hf _ _ _ _ _ h; simp at this; omega) (fun _ => by have := HL.out; omega)
          go_upto_region 10 with fail
          have hel := heap_alloc_new wr (.cells #[.string pr.1, .bool mu, .int .i64 pr.2.kind, .string pr.2.name, .int .i64 pr.2.n, .slice fa pr.2.el.length fc, .int .i64 x] 28)
          have hB1 : Below wr.heap.size wr (wr.alloc (.cells #[.string pr.1, .bool mu, .int .i64 pr.2.kind, .string pr.2.name, .int .i64 pr.2.n, .slice fa pr.2.el.length fc, .int .i64 x] 28)) := (Below.refl _ _).alloc (Nat.le_refl _) _
          obtain ⟨eb, heb⟩ : ∃ y, wr.heap.size = y := ⟨_, rfl⟩
          obtain ⟨w5, hw5⟩ : ∃ y, wr.alloc (.cells #[.string pr.1, .bool mu, .int .i64 pr.2.kind, .string pr.2.name, .int .i64 pr.2.n, .slice fa pr.2.el.length fc, .int .i64 x] 28) = y := ⟨_, rfl⟩
          have hal : ab < wr.heap.size := (Array.getElem?_eq_some_iff.1 hA1.at').1
          have hrl' : rb < wr.heap.size := (Array.getElem?_eq_some_iff.1 hR1.at').1
          have hRn : Rnd W0 cb (.slice la its.length lc) W ab eb 28 p w m #[.string pr.1, .bool mu, .int .i64 pr.2.kind, .string pr.2.name, .int .i64 pr.2.n, .slice fa pr.2.el.length fc, .int .i64 x] l' bad' w5 := by
            rw [← hw5, ← heb]
            exact ⟨hC1.keep hB1, ⟨(hB1.block _ hal).trans hA1.at'⟩, hel, grown_trans hG1 (below_grown hB1)⟩
          have hR5 := hR1.keep hB1
          rw [hw5] at hR5
          rw [hw5, heb]
          have hce : cb ≠ eb := by have := hC1.lt; omega
          clear hw5 heb hel hB1 y0 y1 y2 y3 y4 y5 y6 x0 x1 x2 x3 x4 x5 x6 hC1 hA1 hG1 hal hR1 hrl'
          have hSof : ∀ (l : Int) (bad : Bool) (X : World), Rnd W0 cb (.slice la its.length lc) W ab eb 28 p w m #[.string pr.1, .bool mu, .int .i64 pr.2.kind, .string pr.2.name, .int .i64 pr.2.n, .slice fa pr.2.el.length fc, .int .i64 x] l bad X →
              (X.cell? ⟨ab, 0, none⟩ = some (.int .i64 p) ∧ X.cell? ⟨ab, 1, none⟩ = some (.int .i64 w) ∧ X.cell? ⟨ab, 2, none⟩ = some (.bool m) ∧ X.frozen? ⟨ab, 0, none⟩ = false ∧ X.frozen? ⟨ab, 1, none⟩ = false ∧ X.frozen? ⟨ab, 2, none⟩ = false ∧
               X.cell? ⟨eb, 2, none⟩ = some (.int .i64 pr.2.kind) ∧ X.cell? ⟨eb, 3, none⟩ = some (.string pr.2.name) ∧ X.cell? ⟨eb, 4, none⟩ = some (.int .i64 pr.2.n) ∧ X.cell? ⟨eb, 5, none⟩ = some (.slice fa pr.2.el.length fc)) := fun l bad X h => by
            obtain ⟨q0, q1, q2, q3, q4, q5⟩ := h.am.cells
            obtain ⟨r0, r1, r2, r3⟩ := h.mid
            exact ⟨q0, q1, q2, q3, q4, q5, r0, r1, r2, r3⟩
          have hT := hRn.drew
          obtain ⟨q0, q1, q2, q3, q4, q5, r0, r1, r2, r3⟩ := hSof _ _ _ hRn
          have HS := Lib.hid hSof
          have HR := Lib.hid hR5
          clear hSof hR5
          go_region_law (first
            | (go_simp; go_at_call 34; refine (hadd _ l' bad' _ _ _ _ pr.2 hT0 hT.cnt hpre).mono ?_; intro e8 w8 hLf; obtain ⟨l2, bad2, p2, w2', m2, rfl, hC2, hR2⟩ := hLf.ex; have hG8 := hLf.grown; have hT8 := hT.call hC2 hLf.grown hca hce; obtain ⟨q0, q1, q2, q3, q4, q5, r0, r1, r2, r3⟩ := HS.out _ _ _ hT8)
            | (go_simp; go_at_call 39; refine (with_calls _ p w p2 w2' m m2).mono ?_; rintro e9 w9 ⟨rfl, hb9⟩; have hT9 := hT8.keep hb9; obtain ⟨q0, q1, q2, q3, q4, q5, r0, r1, r2, r3⟩ := HS.out _ _ _ hT9))
          all_goals
            obtain ⟨hC3, hA3, hG3⟩ := am_put hT9.cnt hT9.am hT9.gr hca hWa (by omega) (wrap64 (p + p2)) (wrap64 (w + w2')) (m || m2)
            have hpg := puts_grown w9 ab (.int .i64 (wrap64 (p + p2))) (.int .i64 (wrap64 (w + w2'))) (.bool (m || m2))
            have hR9 := ((HR.out.keepg (X := w5) (g := cb) ⟨hG8.os, hG8.tape, hG8.output, hG8.size, hG8.block⟩ (fun h => hcr h.symm)).keep hb9).keepg hpg hra
            go_wp2
            go_roundw
            case rel => exact ⟨k + 1, l2, bad2, _, _, _, by omega, by go_num, hC3, hA3, hR9, hG3, by rw [take_succ htk]; exact res_plus hf (fun _ => by have := HL.out; simp; omega) (by simp) hRes hR2⟩
            case measure => simp [intOf]; omega
        · obtain rfl : k = n := by omega
          obtain ⟨a0, a1, a2, _⟩ := hA1.cells
          obtain ⟨z0, z1, z2, z3, z4, z5⟩ := hR1.cells
          obtain ⟨hC2, hA2, hG2⟩ := am_put hC1 hR1 hG1 hcr hWr (by omega) p w m
          go_wp2
          generalize (((wr.setCell ⟨rb, 0, none⟩ (.int .i64 p)).setCell ⟨rb, 1, none⟩ (.int .i64 w)).setCell ⟨rb, 2, none⟩ (.bool m)) = wf at hC2 hA2 hG2 ⊢
          obtain ⟨b0, b1, b2, _⟩ := hA2.cells
          have e : (it.ps.map Prod.snd).take k = it.ps.map Prod.snd := List.take_of_length_le (by rw [List.length_map]; have := HN.out; omega)
          rw [e] at hRes
          exact bodyPost_ret (v := .agg #[.int .i64 p, .int .i64 w, .bool m]) (by simp [results, Try.results37, go_sem, b0, b1, b2]) rfl ⟨⟨l', bad', p, w, m, rfl, hC2, by rw [HNS.out]; exact hRes⟩, hG2⟩
    · have hns : namedS add its l.toNat t = endE (enumS add (it.vs.map Prod.snd) l.toNat 0 ⟨1, 0, false⟩) := by unfold namedS; rw [HIO.out]; simp only [if_neg h2]
      have HNS := Lib.hid hns
      obtain ⟨n, hnn⟩ : ∃ n, it.vs.length = n := ⟨_, rfl⟩
      have HN := Lib.hid hnn
      rw [hnn] at hvn m4
      have hE0 : ResE (enumS add ((it.vs.map Prod.snd).take 0) l.toNat 0 ⟨1, 0, false⟩) l false 0 1 0 false := ⟨rfl, by show l = (l.toNat : Int); omega, rfl, rfl, rfl, rfl⟩
      clear hnn hns hPs hpn hR0
      go_wp2
      go_loopw [51, 10] (fun i mv' wr => ∃ (k : Nat) (l' : Int) (bad' : Bool) (mv p w : Int) (m : Bool), k ≤ n ∧ i = .int .i64 k ∧ mv' = .int .i64 mv ∧ Cnt W0 cb (.slice la its.length lc) l' bad' wr ∧ AmAt ab p w m wr ∧ AmAt rb 0 0 false wr ∧ W.grownBy wr (some cb) ∧ ResE (enumS add ((it.vs.map Prod.snd).take k) l.toNat 0 ⟨1, 0, false⟩) l' bad' mv p w m) (fun i _ _ => n - (intOf i).toNat)
      case atStart => exact ⟨0, l, false, 0, 1, 0, false, Nat.zero_le _, rfl, rfl, hC4, hA4, hR4, hG4, hE0⟩
      case round =>
        clear hA4 hC4 hG4 hE0 hR4 m0 m3 m4
        have HL := Lib.hid hl
        obtain ⟨k, l', bad', mv, p, w, m, hk, rfl, rfl, hC1, hA1, hR1, hG1, hRes⟩ := hrel
        by_cases hlt : k < n
        · obtain ⟨vr, hvr⟩ : ∃ vr, it.vs[k]? = some vr := ⟨_, List.getElem?_eq_getElem (by have := HN.out; omega)⟩
          have htk : (it.vs.map Prod.snd)[k]? = some vr.2 := by rw [List.getElem?_map, hvr]; rfl
          obtain ⟨b, o, ta, tc, x, rfl, x0, x1, x2, hvl, hts⟩ := hVs k vr hvr
          have y0 := keep_cell hC1.bel x0
          have y1 := keep_cell hC1.bel x1
          have y2 := keep_cell hC1.bel x2
          have hpre : bad' = false → 0 ≤ l' ∧ l' < f := okE_take (L := l.toNat) hRes (fun n' m' a' h => by have := enumS_fair hf _ _ _ _ _ _ _ h; simp at this; omega) (by have := HL.out; omega)
          go_upto_region 17 with fail
          have hel := heap_alloc_new wr (.cells #[.string vr.1, .slice ta vr.2.length tc, .int .i64 x] 48)
          have hB1 : Below wr.heap.size wr (wr.alloc (.cells #[.string vr.1, .slice ta vr.2.length tc, .int .i64 x] 48)) := (Below.refl _ _).alloc (Nat.le_refl _) _
          obtain ⟨eb, heb⟩ : ∃ y, wr.heap.size = y := ⟨_, rfl⟩
          obtain ⟨w5, hw5⟩ : ∃ y, wr.alloc (.cells #[.string vr.1, .slice ta vr.2.length tc, .int .i64 x] 48) = y := ⟨_, rfl⟩
          have hA5 := hA1.keep hB1
          have hR5 := hR1.keep hB1
          have hC5 := hC1.keep hB1
          have hG5 : W.grownBy _ (some cb) := grown_trans hG1 (below_grown hB1)
          rw [hw5] at hA5 hR5 hC5 hG5 hel
          rw [heb] at hel
          rw [hw5, heb]
          have e1 : w5.cell? ⟨eb, 1, none⟩ = some (.slice ta vr.2.length tc) := by rw [cell_of_row _ _ _ _ 48 (0, 0) hel]; rfl
          clear hw5 heb hel hB1 y0 y1 y2 x0 x1 x2 hC1 hA1 hG1 hR1
          go_upto_region 18 with (go_at_call 40; refine (all_calls W0 cb _ add f hf hadd hF w5 l' bad' hC5 hpre ta tc vr.2 hvl hts).mono ?_; intro e6 w6 hLf; obtain ⟨l2, bad2, p2, w2', m2, rfl, hC6, hR2⟩ := hLf.ex; have hG56 := hLf.grown)
          have hA6 := hA5.keepg hG56 (fun h => hca h.symm)
          have hR6 := hR5.keepg hG56 (fun h => hcr h.symm)
          have hG6 := grown_trans hG5 hG56
          have hB6 : Below w6.heap.size w6 (w6.alloc (.cells #[.int .i64 p2, .int .i64 w2', .bool m2] 55)) := (Below.refl _ _).alloc (Nat.le_refl _) _
          have hO7 : AmAt w6.heap.size p2 w2' m2 (w6.alloc (.cells #[.int .i64 p2, .int .i64 w2', .bool m2] 55)) := ⟨heap_alloc_new w6 _⟩
          have hA7 := hA6.keep hB6
          have hR7 := hR6.keep hB6
          have hC7 := hC6.keep hB6
          have hG7 : W.grownBy _ (some cb) := grown_trans hG6 (below_grown hB6)
          obtain ⟨ob, hob⟩ : ∃ y, w6.heap.size = y := ⟨_, rfl⟩
          obtain ⟨w7, hw7⟩ : ∃ y, w6.alloc (.cells #[.int .i64 p2, .int .i64 w2', .bool m2] 55) = y := ⟨_, rfl⟩
          rw [hw7] at hA7 hR7 hC7 hG7 hO7
          rw [hob] at hO7
          rw [hw7, hob]
          clear hw7 hob hB6 hA6 hR6 hG6 hA5 hR5 hC5 hG5 hG56 e1 hLf hC6
          obtain ⟨o0, o1, o2, _⟩ := hO7.cells
          go_cut [10] (fun mw wx => mw = .int .i64 (max mv w2') ∧ w7 = wx)
          case first =>
            go_wp2
            all_goals
              go_meet
              exact ⟨by congr 1; omega, rfl⟩
          case rest =>
            obtain ⟨rfl, rfl⟩ := hcut
            obtain ⟨a0, a1, a2, a3, a4, a5⟩ := hA7.cells
            go_wp2_with (go_at_call 39; refine (with_calls _ p w p2 w2' m m2).mono ?_; rintro e9 w9 ⟨rfl, hb9⟩; obtain ⟨a0, a1, a2, a3, a4, a5⟩ := (hA7.keep hb9).cells)
            obtain ⟨hC3, hA3, hG3⟩ := am_put (hC7.keep hb9) (hA7.keep hb9) (grown_trans hG7 (below_grown hb9)) hca hWa (by omega) (wrap64 (p + p2)) (wrap64 (w + w2')) (m || m2)
            have hpg := puts_grown w9 ab (.int .i64 (wrap64 (p + p2))) (.int .i64 (wrap64 (w + w2'))) (.bool (m || m2))
            have hR9 := (hR7.keep hb9).keepg hpg hra
            go_roundw
            case rel => exact ⟨k + 1, l2, bad2, _, _, _, _, by omega, by go_num, rfl, hC3, hA3, hR9, hG3, by rw [take_succ htk]; exact resE_plus hf (by have := HL.out; simp; omega) (by simp) (fun l1 m1 b1 h => by have := enumS_words hf _ _ _ _ _ _ _ h; have h2 := enumS_fair hf _ _ _ _ _ _ _ h; simp at this h2; omega) hRes hR2⟩
            case measure => simp [intOf]; omega
        · obtain rfl : k = n := by omega
          have e : (it.vs.map Prod.snd).take k = it.vs.map Prod.snd := List.take_of_length_le (by rw [List.length_map]; have := HN.out; omega)
          rw [e] at hRes
          obtain ⟨a0, a1, a2, a3, a4, a5⟩ := hA1.cells
          go_upto_region 22 with fail
          have hA2 := hA1.put1 (wrap64 (mv + 1))
          have hg2 := setCell_grown wr ab 1 (.int .i64 (wrap64 (mv + 1)))
          have hR2 := hR1.keepg hg2 hra
          have hC2 : Cnt W0 cb (.slice la its.length lc) l' bad' (wr.setCell ⟨ab, 1, none⟩ (.int .i64 (wrap64 (mv + 1)))) := ⟨(hg2.block cb hC1.lt (fun e => hca (by injection e))).trans hC1.at', hC1.bel.grown hg2 hC1.bel.size (fun g e => by injection e with e; omega), hC1.ge⟩
          have hG2 := grown_new hG1 hg2 hWa
          obtain ⟨wz, hwz⟩ : ∃ y, wr.setCell ⟨ab, 1, none⟩ (.int .i64 (wrap64 (mv + 1))) = y := ⟨_, rfl⟩
          rw [hwz] at hA2 hR2 hC2 hG2
          rw [hwz]
          clear hwz hg2 hA1 hR1 hC1 hG1 a0 a1 a2 a3 a4 a5
          obtain ⟨a0, a1, a2, a3, a4, a5⟩ := hA2.cells
          obtain ⟨z0, z1, z2, z3, z4, z5⟩ := hR2.cells
          obtain ⟨hC5, hA5, hG5⟩ := am_put hC2 hR2 hG2 hcr hWr (by omega) p (wrap64 (mv + 1)) m
          go_wp2
          generalize (((wz.setCell ⟨rb, 0, none⟩ (.int .i64 p)).setCell ⟨rb, 1, none⟩ (.int .i64 (wrap64 (mv + 1)))).setCell ⟨rb, 2, none⟩ (.bool m)) = wf at hC5 hA5 hG5 ⊢
          obtain ⟨b0, b1, b2, _⟩ := hA5.cells
          exact bodyPost_ret (v := .agg #[.int .i64 p, .int .i64 (wrap64 (mv + 1)), .bool m]) (by simp [results, Try.results37, go_sem, b0, b1, b2]) rfl ⟨⟨l', bad', p, wrap64 (mv + 1), m, rfl, hC5, by
            rw [HNS.out]
            exact res_end hRes (fun n' m' a' h => by have q := enumS_fair hf _ _ _ _ _ _ _ h; have := HL.out; simp at q; omega)⟩, hG5⟩
end Go.Proofs.Ytioediibbgklcaa.W
