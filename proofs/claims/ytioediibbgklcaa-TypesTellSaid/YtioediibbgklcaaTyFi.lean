/- types.Find and ferruleref05.Find. -/
import Derived.Test.YtioediibbgklcaaTySm
namespace Go.Proofs.Ytioediibbgklcaa.W
open Go Go.RowKit Go.Proofs
set_option linter.unusedVariables false
set_option linter.unusedSimpArgs false
def found? (q : Int) (s : ByteArray) (it : It) : Bool := (q == 0 || it.kind == q) && it.name.toList == s.toList
set_option maxHeartbeats 4000000 in
set_option maxRecDepth 100000 in
theorem findp_calls (W : World) (kd : Int) (nm : ByteArray) (pa : Option Addr) (pn pc : Nat) (va : Option Addr) (vn vc : Nat) (t : Tl) (kb sb : Nat) (q : Int) (s : ByteArray) (hkb : kb < W.heap.size) (hk : W.cell? ⟨kb, 0, none⟩ = some (.int .i64 q)) (hsb : sb < W.heap.size) (hs : W.cell? ⟨sb, 0, none⟩ = some (.string s)) :
    Calls Try.prog 32 #[.agg #[.int .i64 kd, .string nm, .int .i64 t.x2, .slice pa pn pc, .slice va vn vc, .int .i64 t.x5, .string t.s6, .int .i64 t.x7, .slice t.a8 t.n8 t.k8, .int .i64 t.x9, .int .i64 t.x10, .int .i64 t.x11, .int .i64 t.x12, .string t.s13, .slice t.a14 t.n14 t.k14, .slice t.a15 t.n15 t.k15, .int .i64 t.x16, .string t.s17, .int .i64 t.x18, .slice t.a19 t.n19 t.k19], .pointer (some ⟨kb, 0, none⟩), .pointer (some ⟨sb, 0, none⟩)] W fun e w' => e = .returned (.bool ((q == 0 || kd == q) && nm.toList == s.toList)) ∧ Below W.heap.size W w' := by
  go_enter Try.func32, Try.ntmps32
  by_cases h1 : q = 0
  · go_wp2
    exact bodyPost_ret (v := .bool (nm.toList == s.toList)) (by simp [results, Try.results32, go_sem]) rfl ⟨by simp [h1], (Below.refl _ W).alloc (Nat.le_refl _) _⟩
  · by_cases h2 : kd = q
    · go_wp2
      exact bodyPost_ret (v := .bool (nm.toList == s.toList)) (by simp [results, Try.results32, go_sem]) rfl ⟨by simp [h2], (Below.refl _ W).alloc (Nat.le_refl _) _⟩
    · go_wp2
      exact bodyPost_ret (v := .bool false) (by simp [results, Try.results32, go_sem]) rfl ⟨by simp [h1, h2], (Below.refl _ W).alloc (Nat.le_refl _) _⟩
theorem findp_any (W : World) (A : Array Value) (it : It) (hA : ItV A it) (kb sb : Nat) (q : Int) (s : ByteArray) (hkb : kb < W.heap.size) (hk : W.cell? ⟨kb, 0, none⟩ = some (.int .i64 q)) (hsb : sb < W.heap.size) (hs : W.cell? ⟨sb, 0, none⟩ = some (.string s)) :
    Calls Try.prog 32 #[.agg A, .pointer (some ⟨kb, 0, none⟩), .pointer (some ⟨sb, 0, none⟩)] W fun e w' => e = .returned (.bool (found? q s it)) ∧ Below W.heap.size W w' := by
  obtain ⟨pa, pc, va, vc, t, rfl⟩ := hA.ex
  exact findp_calls W it.kind it.name pa _ pc va _ vc t kb sb q s hkb hk hsb hs
set_option maxHeartbeats 4000000 in
set_option maxRecDepth 100000 in
theorem findq_calls (W0 W : World) (hb : Below W0.heap.size W0 W) (la : Option Addr) (its : List It) (lc : Nat) (hn : its.length ≤ 9223372036854775807) (hI : ItsAt W0 la its) (kb sb : Nat) (q : Int) (s : ByteArray) (hkb : kb < W.heap.size) (hk : W.cell? ⟨kb, 0, none⟩ = some (.int .i64 q)) (hsb : sb < W.heap.size) (hs : W.cell? ⟨sb, 0, none⟩ = some (.string s)) :
    Calls Try.prog 31 #[.slice la its.length lc, .func (.func 32) #[] #[.pointer (some ⟨kb, 0, none⟩), .pointer (some ⟨sb, 0, none⟩)]] W fun e w' => e = .returned (.int .i64 (idxOf (its.findIdx? (found? q s)))) ∧ Below W.heap.size W w' := by
  obtain ⟨n, hnl⟩ : ∃ n, its.length = n := ⟨_, rfl⟩
  have HN := Lib.hid hnl
  rw [hnl] at hn
  simp only [hnl]
  clear hnl
  go_enter Try.func31, Try.ntmps31
  go_wp2
  go_loopw [8, 5] (fun i j wr => ∃ k : Nat, k ≤ n ∧ i = .int .i64 k ∧ Below W.heap.size W wr ∧ ∀ r y, r < k → its[r]? = some y → found? q s y = false) (fun i _ _ => n - (intOf i).toNat)
  case atStart => exact ⟨0, Nat.zero_le _, rfl, Below.refl _ _, fun r y h => absurd h (by omega)⟩
  case round =>
    obtain ⟨k, hkn, rfl, hB, hno⟩ := hrel
    by_cases hlt : k < n
    · obtain ⟨it, hit⟩ : ∃ it, its[k]? = some it := ⟨_, List.getElem?_eq_getElem (by have := HN.out; omega)⟩
      obtain ⟨b, o, cs, rfl, hl, hcs, hIt⟩ := hI k it hit
      have hB0 : Below W0.heap.size W0 wr := hb.trans (hB.mono hb.size)
      obtain ⟨i0, hi0, hi1⟩ := info_size info35
      have hload := run_row (W := wr) b (o + k * 20) 20 cs hl (fun j hj => by
        have hv := hcs j hj
        rw [List.getElem?_eq_getElem (by omega)] at hv ⊢
        exact keep_cell hB0 hv)
      have hV : ItV cs.toArray it := by
        obtain ⟨pa, pc, va, vc, t, rfl, _⟩ := hIt.ex
        exact ⟨pa, pc, va, vc, t, rfl⟩
      obtain ⟨A, hA⟩ : ∃ A, cs.toArray = A := ⟨_, rfl⟩
      rw [hA] at hload hV
      clear hA hcs hIt hl cs
      have hcall := findp_any wr A it hV kb sb q s (Nat.lt_of_lt_of_le hkb hB.size) ((hB.cell (p := ⟨kb, 0, none⟩) hkb).trans hk) (Nat.lt_of_lt_of_le hsb hB.size) ((hB.cell (p := ⟨sb, 0, none⟩) hsb).trans hs)
      cases hpp : found? q s it with
      | true =>
        rw [hpp] at hcall
        go_wp2_with (first
          | (refine wpList_load_row rfl 35 (.tmp 14) rfl 20 _ Try.underlying35 rfl i0 hi0 hi1 b (o + k * 20) A rfl hload ?_)
          | (go_at_call 32; refine hcall.mono ?_; rintro e w1 ⟨rfl, hb1⟩))
        have hr : its.findIdx? (found? q s) = some k := findIdx_at hit hpp hno
        exact bodyPost_ret (v := .int .i64 k) (by simp [results, Try.results31, go_sem]) rfl ⟨by rw [hr]; rfl, hB.trans (hb1.mono hB.size)⟩
      | false =>
        rw [hpp] at hcall
        go_wp2_with (first
          | (refine wpList_load_row rfl 35 (.tmp 14) rfl 20 _ Try.underlying35 rfl i0 hi0 hi1 b (o + k * 20) A rfl hload ?_)
          | (go_at_call 32; refine hcall.mono ?_; rintro e w1 ⟨rfl, hb1⟩))
        go_roundw
        case rel =>
          refine ⟨k + 1, by omega, by go_num, hB.trans (hb1.mono hB.size), fun r y hr hy => ?_⟩
          by_cases c : r < k
          · exact hno r y c hy
          · obtain rfl : r = k := by omega
            rw [hit] at hy; injection hy with hy; subst hy; exact hpp
        case measure => simp [intOf]; omega
    · obtain rfl : k = n := by omega
      have hr : its.findIdx? (found? q s) = none := findIdx_no fun r y hr hy => hno r y (by have := HN.out; omega) hy
      go_wp2
      exact bodyPost_ret (v := .int .i64 (-1)) (by simp [results, Try.results31, go_sem]) rfl ⟨by rw [hr]; rfl, hB⟩
set_option maxHeartbeats 4000000 in
set_option maxRecDepth 100000 in
theorem tfind_calls (W0 W : World) (hb : Below W0.heap.size W0 W) (la : Option Addr) (its : List It) (lc : Nat) (hn : its.length ≤ 9223372036854775807) (hI : ItsAt W0 la its) (q : Int) (s : ByteArray) :
    Calls Try.prog 19 #[.slice la its.length lc, .int .i64 q, .string s] W fun e w' => e = .returned (.int .i64 (idxOf (its.findIdx? (found? q s)))) ∧ Below W.heap.size W w' := by
  have hcall := fun X hX => findq_calls W0 X hX la its lc hn hI W.heap.size (W.heap.size + 1) q s
  obtain ⟨nn, hnl⟩ : ∃ nn, its.length = nn := ⟨_, rfl⟩
  rw [hnl] at hcall ⊢
  clear hnl
  go_enter Try.func19, Try.ntmps19
  go_upto_region 1 with fail
  have hb1 : Below W.heap.size W ((W.alloc (.cells #[.int .i64 q] 3)).alloc (.cells #[.string s] 9)) := ((Below.refl _ _).alloc (Nat.le_refl _) _).alloc (by simp) _
  have hA := (((Below.refl (W.alloc (.cells #[.int .i64 q] 3)).heap.size _).alloc (Nat.le_refl _) (.cells #[.string s] 9)).block W.heap.size (by simp)).trans (heap_alloc_new W (.cells #[.int .i64 q] 3))
  have hBk := heap_alloc_new (W.alloc (.cells #[.int .i64 q] 3)) (.cells #[.string s] 9)
  rw [show (W.alloc (.cells #[.int .i64 q] 3)).heap.size = W.heap.size + 1 by simp] at hBk
  obtain ⟨w1, hw1⟩ : ∃ y, (W.alloc (.cells #[.int .i64 q] 3)).alloc (.cells #[.string s] 9) = y := ⟨_, rfl⟩
  rw [hw1] at hb1 hA hBk ⊢
  have hc := hcall w1 (hb.trans (hb1.mono hb.size)) (Array.getElem?_eq_some_iff.1 hA).1 (by rw [cell_of_row _ _ _ _ 3 (0, 0) hA]; rfl) (Array.getElem?_eq_some_iff.1 hBk).1 (by rw [cell_of_row _ _ _ _ 9 (0, 0) hBk]; rfl)
  clear hw1 hcall hA hBk
  go_wp2_with (go_at_call 31; refine hc.mono ?_; rintro e w2 ⟨rfl, hb2⟩)
  exact bodyPost_ret (v := .int .i64 (idxOf (its.findIdx? (found? q s)))) (by simp [results, Try.results19, go_sem]) rfl ⟨rfl, hb1.trans (hb2.mono hb1.size)⟩
set_option maxHeartbeats 4000000 in
set_option maxRecDepth 100000 in
theorem rfind_calls (W0 W : World) (hb : Below W0.heap.size W0 W) (la : Option Addr) (its : List It) (lc : Nat) (hn : its.length ≤ 9223372036854775807) (hI : ItsAt W0 la its) (q : Int) (s : ByteArray) :
    Calls Try.prog 20 #[.slice la its.length lc, .int .i64 q, .string s] W fun e w' => e = .returned (.int .i64 (idxOf (its.findIdx? (found? q s)))) ∧ Below W.heap.size W w' := by
  obtain ⟨n, hnl⟩ : ∃ n, its.length = n := ⟨_, rfl⟩
  have HN := Lib.hid hnl
  rw [hnl] at hn
  simp only [hnl]
  clear hnl
  go_enter Try.func20, Try.ntmps20
  go_wp2
  go_loopw [7] (fun i wr => ∃ k : Nat, k ≤ n ∧ i = .int .i64 k ∧ wr = W ∧ ∀ r y, r < k → its[r]? = some y → found? q s y = false) (fun i _ => n - (intOf i).toNat)
  case atStart => exact ⟨0, Nat.zero_le _, rfl, rfl, fun r y h => absurd h (by omega)⟩
  case round =>
    obtain ⟨k, hk, rfl, rfl, hno⟩ := hrel
    by_cases hlt : k < n
    · obtain ⟨it, hit⟩ : ∃ it, its[k]? = some it := ⟨_, List.getElem?_eq_getElem (by have := HN.out; omega)⟩
      obtain ⟨b, o, cs, rfl, hl, hcs, hIt⟩ := hI k it hit
      obtain ⟨pa, pc, va, vc, _, q0, q1, _⟩ := hIt.heads
      have x0 := keep_cell hb ((hcs 0 (by omega)).trans q0)
      have x1 := keep_cell hb ((hcs 1 (by omega)).trans q1)
      rw [Nat.add_zero] at x0
      clear hcs hIt q0 q1
      have hnm : found? q s it = ((q == 0 || it.kind == q) && it.name.toList == s.toList) := rfl
      have HNM := Lib.hid hnm
      clear hnm
      by_cases hkd : q = 0 ∨ it.kind = q
      · cases hs : (it.name.toList == s.toList) with
        | true =>
          have hpp : found? q s it = true := by rw [HNM.out, hs]; rcases hkd with h | h <;> simp [h]
          have hr : its.findIdx? (found? q s) = some k := findIdx_at hit hpp hno
          have HR := Lib.hid hr
          clear hr hpp
          by_cases h : q = 0
          · go_wp2
            exact bodyPost_ret (v := .int .i64 k) (by simp [results, Try.results20, go_sem]) rfl ⟨by rw [HR.out]; rfl, Below.refl _ _⟩
          · have h2 : it.kind = q := by rcases hkd with h3 | h3; exact absurd h3 h; exact h3
            clear hkd
            go_wp2
            exact bodyPost_ret (v := .int .i64 k) (by simp [results, Try.results20, go_sem]) rfl ⟨by rw [HR.out]; rfl, Below.refl _ _⟩
        | false =>
          have hpp : found? q s it = false := by rw [HNM.out, hs]; simp
          have HPP := Lib.hid hpp
          clear hpp
          by_cases h : q = 0
          · clear hkd
            go_wp2
            go_roundw
            case rel =>
              refine ⟨k + 1, by omega, by go_num, trivial, fun r y hr hy => ?_⟩
              by_cases c : r < k
              · exact hno r y c hy
              · obtain rfl : r = k := by omega
                rw [hit] at hy; injection hy with hy; subst hy; exact HPP.out
            case measure => simp [intOf]; omega
          · have h2 : it.kind = q := by rcases hkd with h3 | h3; exact absurd h3 h; exact h3
            clear hkd
            go_wp2
            go_roundw
            case rel =>
              refine ⟨k + 1, by omega, by go_num, trivial, fun r y hr hy => ?_⟩
              by_cases c : r < k
              · exact hno r y c hy
              · obtain rfl : r = k := by omega
                rw [hit] at hy; injection hy with hy; subst hy; exact HPP.out
            case measure => simp [intOf]; omega
      · have h2 : ¬ q = 0 := fun h => hkd (.inl h)
        have h3 : ¬ it.kind = q := fun h => hkd (.inr h)
        have hpp : found? q s it = false := by rw [HNM.out]; simp [h2, h3]
        have HPP := Lib.hid hpp
        clear hkd hpp
        go_wp2
        go_roundw
        case rel =>
          refine ⟨k + 1, by omega, by go_num, trivial, fun r y hr hy => ?_⟩
          by_cases c : r < k
          · exact hno r y c hy
          · obtain rfl : r = k := by omega
            rw [hit] at hy; injection hy with hy; subst hy; exact HPP.out
        case measure => simp [intOf]; omega
    · obtain rfl : k = n := by omega
      have hr : its.findIdx? (found? q s) = none := findIdx_no fun r y hr hy => hno r y (by have := HN.out; omega) hy
      go_wp2
      exact bodyPost_ret (v := .int .i64 (-1)) (by simp [results, Try.results20, go_sem]) rfl ⟨by rw [hr]; rfl, Below.refl _ _⟩
end Go.Proofs.Ytioediibbgklcaa.W
