/- ferruleref05.Same: two types that are one. -/
import Derived.Test.YtioediibbgklcaaTyU
namespace Go.Proofs.Ytioediibbgklcaa.W
open Go Go.RowKit Go.Proofs
set_option linter.unusedVariables false
set_option linter.unusedSimpArgs false
mutual
def same : Ty → Ty → Bool
  | .mk k s n l, .mk k' s' n' l' => k == k' && (s.toList == s'.toList && (n == n' && sameL l l'))
def sameL : List Ty → List Ty → Bool
  | [], [] => true
  | a :: l, b :: m => same a b && sameL l m
  | [], _ :: _ => false
  | _ :: _, [] => false
end
theorem same_eq (t u : Ty) : same t u = (t.kind == u.kind && (t.name.toList == u.name.toList && (t.n == u.n && sameL t.el u.el))) := by
  cases t; cases u; simp [same, Ty.kind, Ty.name, Ty.n, Ty.el]
theorem sameL_len : ∀ (l m : List Ty), l.length ≠ m.length → sameL l m = false
  | [], [], h => absurd rfl h
  | a :: l, b :: m, h => by rw [sameL, sameL_len l m (fun e => h (by simp [e]))]; simp
  | [], _ :: _, _ => by rw [sameL]
  | _ :: _, [], _ => by rw [sameL]
theorem sameL_all : ∀ (l m : List Ty), l.length = m.length → (∀ (i : Nat) a b, l[i]? = some a → m[i]? = some b → same a b = true) → sameL l m = true
  | [], [], _, _ => by rw [sameL]
  | a :: l, b :: m, h, hh => by
    rw [sameL, hh 0 a b rfl rfl, sameL_all l m (by simpa using h) (fun i x y hx hy => hh (i + 1) x y (by simpa using hx) (by simpa using hy))]; rfl
  | [], _ :: _, h, _ => by simp at h
  | _ :: _, [], h, _ => by simp at h
theorem sameL_no : ∀ (l m : List Ty) (i : Nat) (a b : Ty), l[i]? = some a → m[i]? = some b → same a b = false → sameL l m = false
  | [], _, i, a, b, h, _, _ => by simp at h
  | _ :: _, [], i, a, b, _, h, _ => by simp at h
  | x :: l, y :: m, 0, a, b, h1, h2, h3 => by simp at h1 h2; subst h1 h2; rw [sameL, h3]; rfl
  | x :: l, y :: m, i + 1, a, b, h1, h2, h3 => by
    rw [sameL, sameL_no l m i a b (by simpa using h1) (by simpa using h2) h3]; simp
theorem el_size (t : Ty) (i : Nat) (a : Ty) (h : t.el[i]? = some a) : SizeOf.sizeOf a < SizeOf.sizeOf t := by
  cases t with
  | mk k s n l =>
    have := List.sizeOf_lt_of_mem (List.mem_of_getElem? h)
    simp only [Ty.el] at this
    simp only [Ty.mk.sizeOf_spec]
    omega
def tyAgg (t : Ty) (ea : Option Addr) (ec : Nat) : Array Value := #[.int .i64 t.kind, .string t.name, .int .i64 t.n, .slice ea t.el.length ec]
set_option maxHeartbeats 4000000 in
set_option maxRecDepth 100000 in
theorem same_calls (W0 : World) : ∀ (N : Nat) (t u : Ty) (W : World) (ea : Option Addr) (ec : Nat) (fa : Option Addr) (fc : Nat), SizeOf.sizeOf t ≤ N → Below W0.heap.size W0 W → TyAt W0 [.int .i64 t.kind, .string t.name, .int .i64 t.n, .slice ea t.el.length ec] t → TyAt W0 [.int .i64 u.kind, .string u.name, .int .i64 u.n, .slice fa u.el.length fc] u →
    Calls Try.prog 13 #[.agg #[.int .i64 t.kind, .string t.name, .int .i64 t.n, .slice ea t.el.length ec], .agg #[.int .i64 u.kind, .string u.name, .int .i64 u.n, .slice fa u.el.length fc]] W fun e w' => e = .returned (.bool (same t u)) ∧ Below W.heap.size W w' := by
  intro N
  induction N with
  | zero => intro t u W ea ec fa fc hN; have : 0 < SizeOf.sizeOf t := by cases t; simp only [Ty.mk.sizeOf_spec]; omega
            omega
  | succ N ih =>
  intro t u W ea ec fa fc hN hb hT hU
  obtain ⟨a', c', _, _, _, e4, hl1, hT'⟩ := hT.inv
  injection e4 with e4 _ e5
  subst e4 e5
  obtain ⟨a'', c'', _, _, _, e4, hl2, hU'⟩ := hU.inv
  injection e4 with e4 _ e5
  subst e4 e5
  clear hT hU
  go_enter Try.func13, Try.ntmps13
  go_upto_region 1 with fail
  have hb1 : Below W.heap.size W ((W.alloc (.cells (tyAgg t ea ec) 26)).alloc (.cells (tyAgg u fa fc) 26)) := ((Below.refl _ _).alloc (Nat.le_refl _) _).alloc (by simp) _
  have hA := (((Below.refl (W.alloc (.cells (tyAgg t ea ec) 26)).heap.size _).alloc (Nat.le_refl _) (.cells (tyAgg u fa fc) 26)).block W.heap.size (by simp)).trans (heap_alloc_new W (.cells (tyAgg t ea ec) 26))
  have hBk := heap_alloc_new (W.alloc (.cells (tyAgg t ea ec) 26)) (.cells (tyAgg u fa fc) 26)
  rw [show (W.alloc (.cells (tyAgg t ea ec) 26)).heap.size = W.heap.size + 1 by simp] at hBk
  show Code.wp Try.prog _ _ _ ((W.alloc (.cells (tyAgg t ea ec) 26)).alloc (.cells (tyAgg u fa fc) 26))
  obtain ⟨w1, hw1⟩ : ∃ y, (W.alloc (.cells (tyAgg t ea ec) 26)).alloc (.cells (tyAgg u fa fc) 26) = y := ⟨_, rfl⟩
  rw [hw1] at hb1 hA hBk ⊢
  obtain ⟨ta, hta⟩ : ∃ y, y = W.heap.size := ⟨_, rfl⟩
  obtain ⟨ua, hua⟩ : ∃ y, W.heap.size + 1 = y := ⟨_, rfl⟩
  rw [hua] at hBk ⊢
  rw [← hta] at hA ⊢
  have k0 : w1.cell? ⟨ta, 0, none⟩ = some (.int .i64 t.kind) := by rw [cell_of_row _ _ _ _ 26 (0, 0) hA]; rfl
  have k1 : w1.cell? ⟨ta, 1, none⟩ = some (.string t.name) := by rw [cell_of_row _ _ _ _ 26 (0, 0) hA]; rfl
  have k2 : w1.cell? ⟨ta, 2, none⟩ = some (.int .i64 t.n) := by rw [cell_of_row _ _ _ _ 26 (0, 0) hA]; rfl
  have k3 : w1.cell? ⟨ta, 3, none⟩ = some (.slice ea t.el.length ec) := by rw [cell_of_row _ _ _ _ 26 (0, 0) hA]; rfl
  have j0 : w1.cell? ⟨ua, 0, none⟩ = some (.int .i64 u.kind) := by rw [cell_of_row _ _ _ _ 26 (0, 0) hBk]; rfl
  have j1 : w1.cell? ⟨ua, 1, none⟩ = some (.string u.name) := by rw [cell_of_row _ _ _ _ 26 (0, 0) hBk]; rfl
  have j2 : w1.cell? ⟨ua, 2, none⟩ = some (.int .i64 u.n) := by rw [cell_of_row _ _ _ _ 26 (0, 0) hBk]; rfl
  have j3 : w1.cell? ⟨ua, 3, none⟩ = some (.slice fa u.el.length fc) := by rw [cell_of_row _ _ _ _ 26 (0, 0) hBk]; rfl
  have hsm := Lib.hid (same_eq t u)
  have hb01 := hb.trans (hb1.mono hb.size)
  clear hw1 hA hBk hua hta
  obtain ⟨n, hn⟩ : ∃ n, t.el.length = n := ⟨_, rfl⟩
  obtain ⟨m, hm⟩ : ∃ m, u.el.length = m := ⟨_, rfl⟩
  rw [hn] at k3 hl1
  rw [hm] at j3 hl2
  by_cases h0 : t.kind = u.kind
  · cases h1 : (t.name.toList == u.name.toList) with
    | true =>
      by_cases h2 : t.n = u.n
      · by_cases h3 : n = m
        · subst h3
          have hsm2 : same t u = sameL t.el u.el := by rw [hsm.out, h1]; simp [h0, h2]
          have HSM := Lib.hid hsm2
          have HN := Lib.hid hn
          have HM := Lib.hid hm
          clear hsm2 hn hm
          go_wp2
          go_loopw [5] (fun i wr => ∃ k : Nat, k ≤ n ∧ i = .int .i64 k ∧ Below w1.heap.size w1 wr ∧ ∀ q a b, q < k → t.el[q]? = some a → u.el[q]? = some b → same a b = true) (fun i _ => n - (intOf i).toNat)
          case atStart => exact ⟨0, Nat.zero_le _, rfl, Below.refl _ _, fun q a b h => absurd h (by omega)⟩
          case round =>
            obtain ⟨k, hk, rfl, hB, hyes⟩ := hrel
            have z3 := (hB.cell (p := ⟨ta, 3, none⟩) (cell_lt k3)).trans k3
            have y3 := (hB.cell (p := ⟨ua, 3, none⟩) (cell_lt j3)).trans j3
            by_cases hkn : k < n
            · obtain ⟨a, hae⟩ : ∃ a, t.el[k]? = some a := ⟨_, List.getElem?_eq_getElem (by have := HN.out; omega)⟩
              obtain ⟨b, hbe⟩ : ∃ b, u.el[k]? = some b := ⟨_, List.getElem?_eq_getElem (by have := HM.out; omega)⟩
              obtain ⟨b1, o1, c0, c1, c2, c3, rfl, x0, x1, x2, x3, hTa⟩ := hT' k a hae
              obtain ⟨b2, o2, d0, d1, d2, d3, rfl, v0, v1, v2, v3, hTb⟩ := hU' k b hbe
              have hB0 : Below W0.heap.size W0 wr := hb01.trans (hB.mono hb01.size)
              have g0 := keep_cell hB0 x0
              have g1 := keep_cell hB0 x1
              have g2 := keep_cell hB0 x2
              have g3 := keep_cell hB0 x3
              have l0 := keep_cell hB0 v0
              have l1 := keep_cell hB0 v1
              have l2 := keep_cell hB0 v2
              have l3 := keep_cell hB0 v3
              obtain ⟨aa, ac, rfl, rfl, rfl, rfl, _, _⟩ := hTa.inv
              obtain ⟨ba, bc, rfl, rfl, rfl, rfl, _, _⟩ := hTb.inv
              have hcall := ih a b wr.drew aa ac ba bc (by have := el_size t k a hae; omega) (below_dr hB0) hTa hTb
              have hdb := below_dr hB
              cases hab : same a b with
              | true =>
                rw [hab] at hcall
                go_upto_region 6 with fail
                go_region_law (go_simp; go_at_call 13; refine hcall.mono ?_; rintro e w3 ⟨rfl, hb3⟩)
                all_goals
                  have hBn := hdb.trans (hb3.mono hdb.size)
                  go_wp2
                  go_roundw
                  case rel =>
                    refine ⟨k + 1, by omega, by go_num, hBn, fun q x y hq hx hy => ?_⟩
                    by_cases c : q < k
                    · exact hyes q x y c hx hy
                    · obtain rfl : q = k := by omega
                      rw [hae] at hx; injection hx with hx; subst hx
                      rw [hbe] at hy; injection hy with hy; subst hy
                      exact hab
                  case measure => simp [intOf]; omega
              | false =>
                have hs : same t u = false := by rw [HSM.out]; exact sameL_no _ _ k a b hae hbe hab
                have HS := Lib.hid hs
                clear hs
                rw [hab] at hcall
                go_upto_region 6 with fail
                go_region_law (go_simp; go_at_call 13; refine hcall.mono ?_; rintro e w3 ⟨rfl, hb3⟩)
                all_goals
                  have hBn := hdb.trans (hb3.mono hdb.size)
                  go_wp2
                  exact bodyPost_ret (v := .bool false) (by simp [results, Try.results13, go_sem]) rfl ⟨by rw [HS.out], hb1.trans (hBn.mono hb1.size)⟩
            · obtain rfl : k = n := by omega
              have hs : same t u = true := by
                rw [HSM.out]
                refine sameL_all _ _ (by rw [HN.out, HM.out]) (fun i x y hx hy => hyes i x y ?_ hx hy)
                have := (List.getElem?_eq_some_iff.1 hx).1
                have := HN.out
                omega
              have HS := Lib.hid hs
              clear hs
              go_wp2
              exact bodyPost_ret (v := .bool true) (by simp [results, Try.results13, go_sem]) rfl ⟨by rw [HS.out], hb1.trans (hB.mono hb1.size)⟩
        · have hs : same t u = false := by rw [hsm.out, sameL_len _ _ (by omega)]; simp
          have HS := Lib.hid hs
          clear hs
          go_wp2
          exact bodyPost_ret (v := .bool false) (by simp [results, Try.results13, go_sem]) rfl ⟨by rw [HS.out], hb1⟩
      · have hs : same t u = false := by rw [hsm.out]; simp [h2]
        have HS := Lib.hid hs
        clear hs
        go_wp2
        exact bodyPost_ret (v := .bool false) (by simp [results, Try.results13, go_sem]) rfl ⟨by rw [HS.out], hb1⟩
    | false =>
      have hs : same t u = false := by rw [hsm.out, h1]; simp
      have HS := Lib.hid hs
      clear hs
      go_wp2
      exact bodyPost_ret (v := .bool false) (by simp [results, Try.results13, go_sem]) rfl ⟨by rw [HS.out], hb1⟩
  · have hs : same t u = false := by rw [hsm.out]; simp [h0]
    have HS := Lib.hid hs
    clear hs
    go_wp2
    exact bodyPost_ret (v := .bool false) (by simp [results, Try.results13, go_sem]) rfl ⟨by rw [HS.out], hb1⟩
end Go.Proofs.Ytioediibbgklcaa.W
