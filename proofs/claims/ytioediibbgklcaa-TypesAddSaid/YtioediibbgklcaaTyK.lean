/- types.measure. -/
import Derived.Test.YtioediibbgklcaaTyJ
namespace Go.Proofs.Ytioediibbgklcaa.W
open Go Go.RowKit Go.Proofs
set_option linter.unusedVariables false
set_option linter.unusedSimpArgs false
/-- What measure tells. -/
def measureS (its : List It) (t : Ty) : Option Am := (addS its 513 512 t).map Prod.snd
structure Meas (its : List It) (t : Ty) (e : Ending) : Prop where
  yes : ∀ a, measureS its t = some a → e = .returned (.tuple #[.agg #[.int .i64 a.parts, .int .i64 a.words, .bool a.moves], .bool true])
  no : measureS its t = none → e = .returned (.tuple #[.agg #[.int .i64 0, .int .i64 0, .bool false], .bool false])
set_option maxHeartbeats 4000000 in
set_option maxRecDepth 100000 in
theorem measure_calls (W0 W : World) (hb : Below W0.heap.size W0 W) (la : Option Addr) (its : List It) (lc : Nat) (hn : its.length ≤ 9223372036854775807) (hI : ItsAt W0 la its) (t : Ty) (ea : Option Addr) (ec : Nat) (hT : TyAt W0 [.int .i64 t.kind, .string t.name, .int .i64 t.n, .slice ea t.el.length ec] t) :
    Calls Try.prog 22 #[.slice la its.length lc, .agg #[.int .i64 t.kind, .string t.name, .int .i64 t.n, .slice ea t.el.length ec]] W fun e w' => Meas its t e ∧ Below W.heap.size W w' := by
  have hadd := fun cb => add_calls W0 cb la its lc hn hI 513 (by omega)
  obtain ⟨n, hnl⟩ : ∃ n, its.length = n := ⟨_, rfl⟩
  rw [hnl] at hadd ⊢
  have hCs := hb.size
  go_enter Try.func22, Try.ntmps22
  go_upto_region 2 with fail
  have hb1 : Below W.heap.size W (W.alloc (.cells #[.int .i64 t.kind, .string t.name, .int .i64 t.n, .slice ea t.el.length ec] 26)) := (Below.refl _ _).alloc (Nat.le_refl _) _
  have hT1 := heap_alloc_new W (.cells #[.int .i64 t.kind, .string t.name, .int .i64 t.n, .slice ea t.el.length ec] 26)
  obtain ⟨w1, hw1⟩ : ∃ y, W.alloc (.cells #[.int .i64 t.kind, .string t.name, .int .i64 t.n, .slice ea t.el.length ec] 26) = y := ⟨_, rfl⟩
  have hs1 : w1.heap.size = W.heap.size + 1 := by rw [← hw1]; simp
  rw [hw1] at hb1 hT1 ⊢
  have hb2 : Below w1.heap.size w1 (w1.alloc (.cells #[.int .i64 0, .int .i64 0, .bool false] 55)) := (Below.refl _ _).alloc (Nat.le_refl _) _
  have hR2 : AmAt w1.heap.size 0 0 false (w1.alloc (.cells #[.int .i64 0, .int .i64 0, .bool false] 55)) := ⟨heap_alloc_new w1 _⟩
  obtain ⟨w2, hw2⟩ : ∃ y, w1.alloc (.cells #[.int .i64 0, .int .i64 0, .bool false] 55) = y := ⟨_, rfl⟩
  have hs2 : w2.heap.size = W.heap.size + 2 := by rw [← hw2]; simp [hs1]
  rw [hw2] at hb2 hR2 ⊢
  have hb3 : Below w2.heap.size w2 (w2.alloc (.cells #[.slice la n lc, .int .i64 512, .bool false] 74)) := (Below.refl _ _).alloc (Nat.le_refl _) _
  have hC3 := heap_alloc_new w2 (.cells #[.slice la n lc, .int .i64 512, .bool false] 74)
  obtain ⟨w3, hw3⟩ : ∃ y, w2.alloc (.cells #[.slice la n lc, .int .i64 512, .bool false] 74) = y := ⟨_, rfl⟩
  rw [hw3] at hb3 hC3 ⊢
  have hB2 : Below W.heap.size W w2 := hb1.trans (hb2.mono hb1.size)
  have hB3 : Below W.heap.size W w3 := hB2.trans (hb3.mono hB2.size)
  have hT3 := ((hb3.block W.heap.size (by omega)).trans (hb2.block W.heap.size (by omega))).trans hT1
  have hR3 := hR2.keep hb3
  rw [hs1] at hR3
  rw [hs2] at hC3
  obtain ⟨rb, hrb⟩ : ∃ y, W.heap.size + 1 = y := ⟨_, rfl⟩
  obtain ⟨cb, hcb⟩ : ∃ y, rb + 1 = y := ⟨_, rfl⟩
  rw [show W.heap.size + 2 = cb by omega] at hC3
  rw [hrb] at hR3
  rw [hrb, hcb]
  have hs3 : w3.heap.size = cb + 1 := by rw [← hw3]; simp; omega
  have hCn : Cnt W0 cb (.slice la n lc) 512 false w3 := ⟨hC3, hb.trans (hB3.mono hb.size), by omega⟩
  have hcr : cb ≠ rb := by omega
  have hBg : Beg W0 cb (.slice la n lc) W rb #[.int .i64 t.kind, .string t.name, .int .i64 t.n, .slice ea t.el.length ec] 512 false w3 := ⟨hCn, hR3, hT3, below_grown hB3⟩
  obtain ⟨e0, e1, e2, e3⟩ := hBg.cells
  have hcall := hadd cb w3 512 false _ _ _ _ t hT hCn (fun _ => ⟨by omega, by omega⟩)
  have hWc : W.heap.size ≤ cb := by omega
  have hWr : W.heap.size ≤ rb := by omega
  have hct : cb ≠ W.heap.size := by omega
  clear hw1 hw2 hw3 hb1 hb2 hb3 hs1 hs2 hT1 hT3 hR2 hR3 hC3 hB2 hB3 hadd hCn hrb hcb hs3
  have e512 : (512 : Int).toNat = 512 := rfl
  rw [e512] at hcall
  have hok : ∀ r, ok? false r = r := fun r => rfl
  rw [hok] at hcall
  go_upto_region 3 with (go_at_call 34; refine hcall.mono ?_; intro e6 w6 hLf; obtain ⟨l2, bad2, p, w, m, rfl, hC6, hR2⟩ := hLf.ex; have hB6 := hBg.turn hC6 hLf.grown hcr hct)
  have hb7 : Below w6.heap.size w6 (w6.alloc (.cells #[.int .i64 p, .int .i64 w, .bool m] 55)) := (Below.refl _ _).alloc (Nat.le_refl _) _
  have hO7 : AmAt w6.heap.size p w m (w6.alloc (.cells #[.int .i64 p, .int .i64 w, .bool m] 55)) := ⟨heap_alloc_new w6 _⟩
  have hB7 := hB6.keep hb7
  have hrl : rb < w6.heap.size := (Array.getElem?_eq_some_iff.1 hB6.res.at').1
  obtain ⟨ob, hob⟩ : ∃ y, w6.heap.size = y := ⟨_, rfl⟩
  obtain ⟨w7, hw7⟩ : ∃ y, w6.alloc (.cells #[.int .i64 p, .int .i64 w, .bool m] 55) = y := ⟨_, rfl⟩
  rw [hw7] at hO7 hB7 ⊢
  rw [hob] at hO7 hrl ⊢
  clear hw7 hob hb7 e0 e1 e2 e3 hcall hBg
  obtain ⟨d0, d1, d2, d3, d4⟩ := hB7.cnt.cells
  obtain ⟨z0, z1, z2, z3, z4, z5⟩ := hB7.res.cells
  obtain ⟨o0, o1, o2, o3, o4, o5⟩ := hO7.cells
  have hbel : ∀ x, W.grownBy x (some cb) → Below W.heap.size W x := fun x h => ⟨h.os, h.tape, h.output, h.size, fun q hq => h.block q hq (fun e => by injection e with e; omega)⟩
  cases hadS : addS its 513 512 t with
  | none =>
    rw [hadS] at hR2
    have hR2 : bad2 = true := hR2
    subst hR2
    have hms : measureS its t = none := by unfold measureS; rw [hadS]; rfl
    obtain ⟨hC8, hA8, hG8⟩ := am_put hB7.cnt hB7.res hB7.gr hcr hWr (by omega) 0 0 false
    have HM := Lib.hid hms
    clear hadS hms
    go_wp2
    generalize (((w7.setCell ⟨rb, 0, none⟩ (.int .i64 0)).setCell ⟨rb, 1, none⟩ (.int .i64 0)).setCell ⟨rb, 2, none⟩ (.bool false)) = wf at hC8 hA8 hG8 ⊢
    obtain ⟨b0, b1, b2, _⟩ := hA8.cells
    exact bodyPost_ret (v := .tuple #[.agg #[.int .i64 0, .int .i64 0, .bool false], .bool false]) (by simp [results, Try.results22, go_sem, b0, b1, b2]) rfl ⟨⟨(fun a h => by rw [HM.out] at h; cases h), fun _ => rfl⟩, hbel _ hG8⟩
  | some x =>
    obtain ⟨l3, a⟩ := x
    rw [hadS] at hR2
    obtain ⟨rfl, rfl, rfl, rfl, rfl⟩ := hR2
    have hfair := addS_fair its 513 _ _ _ _ hadS
    have hms : measureS its t = some a := by unfold measureS; rw [hadS]; rfl
    have hp0 : ¬ ((a.parts : Int) = 0) := by omega
    obtain ⟨hC8, hA8, hG8⟩ := am_put hB7.cnt hB7.res hB7.gr hcr hWr (by omega) (a.parts : Int) (a.words : Int) a.moves
    have HM := Lib.hid hms
    clear hadS hms hfair
    go_upto_region 5 with fail
    go_region
    all_goals
      generalize (((w7.setCell ⟨rb, 0, none⟩ (.int .i64 (a.parts : Int))).setCell ⟨rb, 1, none⟩ (.int .i64 (a.words : Int))).setCell ⟨rb, 2, none⟩ (.bool a.moves)) = wf at hC8 hA8 hG8 ⊢
      obtain ⟨b0, b1, b2, _⟩ := hA8.cells
      go_wp2
      exact bodyPost_ret (v := .tuple #[.agg #[.int .i64 a.parts, .int .i64 a.words, .bool a.moves], .bool true]) (by simp [results, Try.results22, go_sem, b0, b1, b2]) rfl ⟨⟨(fun a' h => by rw [HM.out] at h; injection h with h; subst h; rfl), (fun h => by rw [HM.out] at h; cases h)⟩, below_dr (hbel _ hG8)⟩
end Go.Proofs.Ytioediibbgklcaa.W
