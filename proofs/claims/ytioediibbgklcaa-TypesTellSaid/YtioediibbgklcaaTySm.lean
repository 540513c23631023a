/- types.Same, with slices.EqualFunc. -/
import Derived.Test.YtioediibbgklcaaTyZ
namespace Go.Proofs.Ytioediibbgklcaa.W
open Go Go.RowKit Go.Proofs
set_option linter.unusedVariables false
set_option linter.unusedSimpArgs false
set_option maxHeartbeats 4000000 in
set_option maxRecDepth 100000 in
theorem eqf_calls (W0 : World) (N : Nat) (ih : ∀ (t u : Ty) (W : World) (ea : Option Addr) (ec : Nat) (fa : Option Addr) (fc : Nat), SizeOf.sizeOf t ≤ N → Below W0.heap.size W0 W → TyAt W0 (cells4of t ea ec) t → TyAt W0 (cells4of u fa fc) u →
      Calls Try.prog 21 #[.agg (cells4of t ea ec).toArray, .agg (cells4of u fa fc).toArray] W fun e w' => e = .returned (.bool (same t u)) ∧ Below W.heap.size W w')
    (ts us : List Ty) (W : World) (ta : Option Addr) (tc : Nat) (ua : Option Addr) (uc : Nat) (hts : ∀ t ∈ ts, SizeOf.sizeOf t ≤ N) (hb : Below W0.heap.size W0 W) (hT : TysAt W0 ta ts) (hU : TysAt W0 ua us) (hl1 : ts.length ≤ 9223372036854775807) (hl2 : us.length ≤ 9223372036854775807) :
    Calls Try.prog 33 #[.slice ta ts.length tc, .slice ua us.length uc, .func (.func 21) #[] #[]] W fun e w' => e = .returned (.bool (sameL ts us)) ∧ Below W.heap.size W w' := by
  obtain ⟨n, hnt⟩ : ∃ n, ts.length = n := ⟨_, rfl⟩
  obtain ⟨m, hmt⟩ : ∃ m, us.length = m := ⟨_, rfl⟩
  rw [hnt] at hl1 ⊢
  rw [hmt] at hl2 ⊢
  have HN := Lib.hid hnt
  have HM := Lib.hid hmt
  clear hnt hmt
  go_enter Try.func33, Try.ntmps33
  by_cases hnm : n = m
  · subst hnm
    go_wp2
    go_loopw [17] (fun i wr => ∃ k : Nat, k ≤ n ∧ i = .int .i64 k ∧ Below W.heap.size W wr ∧ ∀ q a b, q < k → ts[q]? = some a → us[q]? = some b → same a b = true) (fun i _ => n - (intOf i).toNat)
    case atStart => exact ⟨0, Nat.zero_le _, rfl, Below.refl _ _, fun q a b h => absurd h (by omega)⟩
    case round =>
      obtain ⟨k, hk, rfl, hB, hyes⟩ := hrel
      have hB0 := hb.trans (hB.mono hb.size)
      by_cases hkn : k < n
      · obtain ⟨a, hae⟩ : ∃ a, ts[k]? = some a := ⟨_, List.getElem?_eq_getElem (by have := HN.out; omega)⟩
        obtain ⟨b, hbe⟩ : ∃ b, us[k]? = some b := ⟨_, List.getElem?_eq_getElem (by have := HM.out; omega)⟩
        obtain ⟨b1, o1, c0, c1, c2, c3, rfl, x0, x1, x2, x3, hTa⟩ := hT k a hae
        obtain ⟨b2, o2, d0, d1, d2, d3, rfl, v0, v1, v2, v3, hTb⟩ := hU k b hbe
        obtain ⟨aa, ac, rfl, rfl, rfl, rfl, _, _⟩ := hTa.inv
        obtain ⟨ba, bc, rfl, rfl, rfl, rfl, _, _⟩ := hTb.inv
        have g0 := keep_cell hB0 x0
        have g1 := keep_cell hB0 x1
        have g2 := keep_cell hB0 x2
        have g3 := keep_cell hB0 x3
        have hb1 : Below wr.heap.size wr (wr.alloc (.cells (cells4of a aa ac).toArray 26)) := (Below.refl _ _).alloc (Nat.le_refl _) _
        have l0 := keep_cell (hB0.trans (hb1.mono hB0.size)) v0
        have l1 := keep_cell (hB0.trans (hb1.mono hB0.size)) v1
        have l2 := keep_cell (hB0.trans (hb1.mono hB0.size)) v2
        have l3 := keep_cell (hB0.trans (hb1.mono hB0.size)) v3
        have hsz := hts a (List.mem_of_getElem? hae)
        go_upto_region 6 with fail
        show Code.wp Try.prog _ _ _ (wr.alloc (.cells (cells4of a aa ac).toArray 26))
        have hA1 := heap_alloc_new wr (.cells (cells4of a aa ac).toArray 26)
        obtain ⟨w1, hw1⟩ : ∃ y, wr.alloc (.cells (cells4of a aa ac).toArray 26) = y := ⟨_, rfl⟩
        rw [hw1] at hb1 hA1 l0 l1 l2 l3 ⊢
        go_upto_region 7 with fail
        have hb2 : Below w1.heap.size w1 (w1.alloc (.cells (cells4of b ba bc).toArray 26)) := (Below.refl _ _).alloc (Nat.le_refl _) _
        have hA2 := heap_alloc_new w1 (.cells (cells4of b ba bc).toArray 26)
        show Code.wp Try.prog _ _ _ (w1.alloc (.cells (cells4of b ba bc).toArray 26))
        obtain ⟨w2, hw2⟩ : ∃ y, w1.alloc (.cells (cells4of b ba bc).toArray 26) = y := ⟨_, rfl⟩
        have hs1 : wr.heap.size < w1.heap.size := (Array.getElem?_eq_some_iff.1 hA1).1
        rw [hw2] at hb2 hA2 ⊢
        have hA1' := (hb2.block _ hs1).trans hA1
        have hBr := (hB.trans (hb1.mono hB.size)).trans (hb2.mono (hB.trans (hb1.mono hB.size)).size)
        have e0 : w2.cell? ⟨wr.heap.size, 0, none⟩ = some (.int .i64 a.kind) := by rw [cell_of_row _ _ _ _ 26 (0, 0) hA1']; rfl
        have e1 : w2.cell? ⟨wr.heap.size, 1, none⟩ = some (.string a.name) := by rw [cell_of_row _ _ _ _ 26 (0, 0) hA1']; rfl
        have e2 : w2.cell? ⟨wr.heap.size, 2, none⟩ = some (.int .i64 a.n) := by rw [cell_of_row _ _ _ _ 26 (0, 0) hA1']; rfl
        have e3 : w2.cell? ⟨wr.heap.size, 3, none⟩ = some (.slice aa a.el.length ac) := by rw [cell_of_row _ _ _ _ 26 (0, 0) hA1']; rfl
        have f0 : w2.cell? ⟨w1.heap.size, 0, none⟩ = some (.int .i64 b.kind) := by rw [cell_of_row _ _ _ _ 26 (0, 0) hA2]; rfl
        have f1 : w2.cell? ⟨w1.heap.size, 1, none⟩ = some (.string b.name) := by rw [cell_of_row _ _ _ _ 26 (0, 0) hA2]; rfl
        have f2 : w2.cell? ⟨w1.heap.size, 2, none⟩ = some (.int .i64 b.n) := by rw [cell_of_row _ _ _ _ 26 (0, 0) hA2]; rfl
        have f3 : w2.cell? ⟨w1.heap.size, 3, none⟩ = some (.slice ba b.el.length bc) := by rw [cell_of_row _ _ _ _ 26 (0, 0) hA2]; rfl
        have hcall := ih a b w2 aa ac ba bc hsz (hb.trans (hBr.mono hb.size)) hTa hTb
        have hcall : Calls Try.prog 21 #[.agg #[.int .i64 a.kind, .string a.name, .int .i64 a.n, .slice aa a.el.length ac], .agg #[.int .i64 b.kind, .string b.name, .int .i64 b.n, .slice ba b.el.length bc]] w2 _ := hcall
        clear hw1 hw2 hA1 hA2 hA1' g0 g1 g2 g3 l0 l1 l2 l3 x0 x1 x2 x3 v0 v1 v2 v3 hb1 hb2
        cases hab : same a b with
        | true =>
          rw [hab] at hcall
          have HAB := Lib.hid hab
          clear hab
          go_wp2_with (go_at_call 21; refine hcall.mono ?_; rintro e w3 ⟨rfl, hb3⟩)
          have hB3 := hBr.trans (hb3.mono hBr.size)
          go_roundw
          case rel =>
            refine ⟨k + 1, by omega, by go_num, hB3, fun q x y hq hx hy => ?_⟩
            by_cases c : q < k
            · exact hyes q x y c hx hy
            · obtain rfl : q = k := by omega
              rw [hae] at hx; injection hx with hx; subst hx
              rw [hbe] at hy; injection hy with hy; subst hy
              exact HAB.out
          case measure => simp [intOf]; omega
        | false =>
          have hs : sameL ts us = false := sameL_no _ _ k a b hae hbe hab
          rw [hab] at hcall
          have HS := Lib.hid hs
          clear hs hab
          go_wp2_with (go_at_call 21; refine hcall.mono ?_; rintro e w3 ⟨rfl, hb3⟩)
          exact bodyPost_ret (v := .bool false) (by simp [results, Try.results33, go_sem]) rfl ⟨by rw [HS.out], hBr.trans (hb3.mono hBr.size)⟩
      · obtain rfl : k = n := by omega
        have hs : sameL ts us = true := sameL_all _ _ (by rw [HN.out, HM.out]) (fun i x y hx hy => hyes i x y (by have := (List.getElem?_eq_some_iff.1 hx).1; have := HN.out; omega) hx hy)
        have HS := Lib.hid hs
        clear hs
        go_wp2
        exact bodyPost_ret (v := .bool true) (by simp [results, Try.results33, go_sem]) rfl ⟨by rw [HS.out], hB⟩
  · have hs : sameL ts us = false := sameL_len _ _ (by rw [HN.out, HM.out]; exact hnm)
    have HS := Lib.hid hs
    have hnm' : ¬ ((n : Int) = (m : Int)) := by omega
    clear hs
    go_wp2
    exact bodyPost_ret (v := .bool false) (by simp [results, Try.results33, go_sem]) rfl ⟨by rw [HS.out], Below.refl _ _⟩
set_option maxHeartbeats 4000000 in
set_option maxRecDepth 100000 in
theorem tsame_calls (W0 : World) : ∀ (N : Nat) (t u : Ty) (W : World) (ea : Option Addr) (ec : Nat) (fa : Option Addr) (fc : Nat), SizeOf.sizeOf t ≤ N → Below W0.heap.size W0 W → TyAt W0 (cells4of t ea ec) t → TyAt W0 (cells4of u fa fc) u →
    Calls Try.prog 21 #[.agg (cells4of t ea ec).toArray, .agg (cells4of u fa fc).toArray] W fun e w' => e = .returned (.bool (same t u)) ∧ Below W.heap.size W w' := by
  intro N
  induction N with
  | zero => intro t u W ea ec fa fc hN; have : 0 < SizeOf.sizeOf t := by cases t; simp only [Ty.mk.sizeOf_spec]; omega
            omega
  | succ N ih =>
  intro t u W ea ec fa fc hN hb hT hU
  obtain ⟨a', c', _, _, _, e4, hl1, hT'⟩ := hT.inv
  injection e4 with e4 _ e5
  subst e4 e5
  obtain ⟨a'', c'', _, _, _, e4, hl2, hU'⟩ := hU.inv
  injection e4 with e4 _ e5
  subst e4 e5
  have heq := fun X hX => eqf_calls W0 N ih t.el u.el X ea ec fa fc (fun x hx => by obtain ⟨i, hi⟩ := List.getElem?_of_mem hx; have := el_size t i x hi; omega) hX hT' hU' hl1 hl2
  clear hT hU hT' hU'
  go_enter Try.func21, Try.ntmps21
  go_upto_region 1 with fail
  have hb1 : Below W.heap.size W ((W.alloc (.cells (tyAgg t ea ec) 26)).alloc (.cells (tyAgg u fa fc) 26)) := ((Below.refl _ _).alloc (Nat.le_refl _) _).alloc (by simp) _
  have hA := (((Below.refl (W.alloc (.cells (tyAgg t ea ec) 26)).heap.size _).alloc (Nat.le_refl _) (.cells (tyAgg u fa fc) 26)).block W.heap.size (by simp)).trans (heap_alloc_new W (.cells (tyAgg t ea ec) 26))
  have hBk := heap_alloc_new (W.alloc (.cells (tyAgg t ea ec) 26)) (.cells (tyAgg u fa fc) 26)
  rw [show (W.alloc (.cells (tyAgg t ea ec) 26)).heap.size = W.heap.size + 1 by simp] at hBk
  show Code.wp Try.prog _ _ _ ((W.alloc (.cells (tyAgg t ea ec) 26)).alloc (.cells (tyAgg u fa fc) 26))
  obtain ⟨w1, hw1⟩ : ∃ y, (W.alloc (.cells (tyAgg t ea ec) 26)).alloc (.cells (tyAgg u fa fc) 26) = y := ⟨_, rfl⟩
  rw [hw1] at hb1 hA hBk ⊢
  have k0 : w1.cell? ⟨W.heap.size, 0, none⟩ = some (.int .i64 t.kind) := by rw [cell_of_row _ _ _ _ 26 (0, 0) hA]; rfl
  have k1 : w1.cell? ⟨W.heap.size, 1, none⟩ = some (.string t.name) := by rw [cell_of_row _ _ _ _ 26 (0, 0) hA]; rfl
  have k2 : w1.cell? ⟨W.heap.size, 2, none⟩ = some (.int .i64 t.n) := by rw [cell_of_row _ _ _ _ 26 (0, 0) hA]; rfl
  have k3 : w1.cell? ⟨W.heap.size, 3, none⟩ = some (.slice ea t.el.length ec) := by rw [cell_of_row _ _ _ _ 26 (0, 0) hA]; rfl
  have j0 : w1.cell? ⟨W.heap.size + 1, 0, none⟩ = some (.int .i64 u.kind) := by rw [cell_of_row _ _ _ _ 26 (0, 0) hBk]; rfl
  have j1 : w1.cell? ⟨W.heap.size + 1, 1, none⟩ = some (.string u.name) := by rw [cell_of_row _ _ _ _ 26 (0, 0) hBk]; rfl
  have j2 : w1.cell? ⟨W.heap.size + 1, 2, none⟩ = some (.int .i64 u.n) := by rw [cell_of_row _ _ _ _ 26 (0, 0) hBk]; rfl
  have j3 : w1.cell? ⟨W.heap.size + 1, 3, none⟩ = some (.slice fa u.el.length fc) := by rw [cell_of_row _ _ _ _ 26 (0, 0) hBk]; rfl
  have hsm := Lib.hid (same_eq t u)
  have hc := heq w1 (hb.trans (hb1.mono hb.size))
  clear hw1 hA hBk heq
  by_cases h0 : t.kind = u.kind
  · cases h1 : (t.name.toList == u.name.toList) with
    | true =>
      by_cases h2 : t.n = u.n
      · have hs : same t u = sameL t.el u.el := by rw [hsm.out, h1]; simp [h0, h2]
        have HS := Lib.hid hs
        clear hs
        obtain ⟨n, hn⟩ : ∃ n, t.el.length = n := ⟨_, rfl⟩
        obtain ⟨m, hm⟩ : ∃ m, u.el.length = m := ⟨_, rfl⟩
        rw [hn] at k3 hc
        rw [hm] at j3 hc
        clear hn hm
        go_wp2_with (go_at_call 33; refine hc.mono ?_; rintro e w3 ⟨rfl, hb3⟩)
        exact bodyPost_ret (v := .bool (sameL t.el u.el)) (by simp [results, Try.results21, go_sem]) rfl ⟨by rw [HS.out], hb1.trans (hb3.mono hb1.size)⟩
      · have hs : same t u = false := by rw [hsm.out]; simp [h2]
        have HS := Lib.hid hs
        clear hs
        go_wp2
        exact bodyPost_ret (v := .bool false) (by simp [results, Try.results21, go_sem]) rfl ⟨by rw [HS.out], hb1⟩
    | false =>
      have hs : same t u = false := by rw [hsm.out, h1]; simp
      have HS := Lib.hid hs
      clear hs
      go_wp2
      exact bodyPost_ret (v := .bool false) (by simp [results, Try.results21, go_sem]) rfl ⟨by rw [HS.out], hb1⟩
  · have hs : same t u = false := by rw [hsm.out]; simp [h0]
    have HS := Lib.hid hs
    clear hs
    go_wp2
    exact bodyPost_ret (v := .bool false) (by simp [results, Try.results21, go_sem]) rfl ⟨by rw [HS.out], hb1⟩
end Go.Proofs.Ytioediibbgklcaa.W
