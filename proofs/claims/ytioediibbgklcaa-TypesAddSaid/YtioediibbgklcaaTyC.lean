/- An item that is looked for. -/
import Derived.Test.YtioediibbgklcaaTyR
import Derived.Shelf.Abstract
namespace Go.Proofs.Ytioediibbgklcaa.W
open Go Go.RowKit Go.Proofs
set_option linter.unusedVariables false
set_option linter.unusedSimpArgs false
def idxOf (o : Option Nat) : Int := match o with
  | some i => i
  | none => -1
theorem findIdx_at {α : Type} {p : α → Bool} : ∀ {l : List α} {k : Nat} {x : α}, l[k]? = some x → p x = true → (∀ q y, q < k → l[q]? = some y → p y = false) → l.findIdx? p = some k
  | [], k, x, h, _, _ => by simp at h
  | y :: l, 0, x, h, hp, _ => by simp at h; subst h; simp [List.findIdx?_cons, hp]
  | y :: l, k + 1, x, h, hp, hq => by
    have h0 := hq 0 y (by omega) rfl
    have := findIdx_at (l := l) (k := k) (by simpa using h) hp (fun q z hq' hz => hq (q + 1) z (by omega) (by simpa using hz))
    simp [List.findIdx?_cons, h0, this]
theorem findIdx_no {α : Type} {p : α → Bool} {l : List α} (h : ∀ q y, q < l.length → l[q]? = some y → p y = false) : l.findIdx? p = none := by
  rw [List.findIdx?_eq_none_iff]
  intro y hy
  obtain ⟨q, hq⟩ := List.getElem?_of_mem hy
  exact h q y (List.getElem?_eq_some_iff.1 hq).1 hq
set_option maxHeartbeats 4000000 in
set_option maxRecDepth 100000 in
theorem find_calls (W0 W : World) (hb : Below W0.heap.size W0 W) (la : Option Addr) (its : List It) (lc : Nat) (hn : its.length ≤ 9223372036854775807) (hI : ItsAt W0 la its) (tb : Nat) (tn : ByteArray) (htb : tb < W.heap.size) (ht : W.cell? ⟨tb, 1, none⟩ = some (.string tn)) :
    Calls Try.prog 31 #[.slice la its.length lc, .func (.func 35) #[] #[.pointer (some ⟨tb, 0, none⟩)]] W fun e w' => e = .returned (.int .i64 (idxOf (its.findIdx? (named? tn)))) ∧ Below W.heap.size W w' := by
  obtain ⟨n, hnl⟩ : ∃ n, its.length = n := ⟨_, rfl⟩
  have HN := Lib.hid hnl
  rw [hnl] at hn
  simp only [hnl]
  clear hnl
  go_enter Try.func31, Try.ntmps31
  go_wp2
  go_loopw [8, 5] (fun i j wr => ∃ k : Nat, k ≤ n ∧ i = .int .i64 k ∧ Below W.heap.size W wr ∧ ∀ q y, q < k → its[q]? = some y → named? tn y = false) (fun i _ _ => n - (intOf i).toNat)
  case atStart => exact ⟨0, Nat.zero_le _, rfl, Below.refl _ _, fun q y h => absurd h (by omega)⟩
  case round =>
    obtain ⟨k, hk, rfl, hB, hno⟩ := hrel
    by_cases hlt : k < n
    · obtain ⟨it, hit⟩ : ∃ it, its[k]? = some it := ⟨_, List.getElem?_eq_getElem (by have := HN.out; omega)⟩
      obtain ⟨b, o, cs, rfl, hl, hcs, hIt⟩ := hI k it hit
      have hB0 : Below W0.heap.size W0 wr := hb.trans (hB.mono hb.size)
      obtain ⟨i0, hi0, hi1⟩ := info_size info35
      have hload := run_row (W := wr) b (o + k * 20) 20 cs hl (fun j hj => by
        have hv := hcs j hj
        rw [List.getElem?_eq_getElem (by omega)] at hv ⊢
        exact keep_cell hB0 hv)
      have hV : ItV cs.toArray it := by
        obtain ⟨pa, pc, va, vc, t, rfl, _⟩ := hIt.ex
        exact ⟨pa, pc, va, vc, t, rfl⟩
      obtain ⟨A, hA⟩ : ∃ A, cs.toArray = A := ⟨_, rfl⟩
      rw [hA] at hload hV
      clear hA hcs hIt hl cs
      have htw := (hB.cell (p := ⟨tb, 1, none⟩) htb).trans ht
      have htl : tb < wr.heap.size := Nat.lt_of_lt_of_le htb hB.size
      have hcall := itemp_any wr A it hV tb tn htl htw
      cases hpp : named? tn it with
      | true =>
        rw [hpp] at hcall
        go_wp2_with (first
          | (refine wpList_load_row rfl 35 (.tmp 14) rfl 20 _ Try.underlying35 rfl i0 hi0 hi1 b (o + k * 20) A rfl hload ?_)
          | (go_at_call 35; refine hcall.mono ?_; rintro e w1 ⟨rfl, hb1⟩))
        have hr : its.findIdx? (named? tn) = some k := findIdx_at hit hpp hno
        exact bodyPost_ret (v := .int .i64 k) (by simp [results, Try.results31, go_sem]) rfl ⟨by rw [hr]; rfl, hB.trans (hb1.mono hB.size)⟩
      | false =>
        rw [hpp] at hcall
        go_wp2_with (first
          | (refine wpList_load_row rfl 35 (.tmp 14) rfl 20 _ Try.underlying35 rfl i0 hi0 hi1 b (o + k * 20) A rfl hload ?_)
          | (go_at_call 35; refine hcall.mono ?_; rintro e w1 ⟨rfl, hb1⟩))
        go_roundw
        case rel =>
          refine ⟨k + 1, by omega, by go_num, hB.trans (hb1.mono hB.size), fun q y hq hy => ?_⟩
          by_cases c : q < k
          · exact hno q y c hy
          · obtain rfl : q = k := by omega
            rw [hit] at hy; injection hy with hy; subst hy; exact hpp
        case measure => simp [intOf]; omega
    · as_aux_lemma =>
      obtain rfl : k = n := by omega
      have hr : its.findIdx? (named? tn) = none := findIdx_no fun q y hq hy => hno q y (by have := HN.out; omega) hy
      go_wp2
      exact bodyPost_ret (v := .int .i64 (-1)) (by simp [results, Try.results31, go_sem]) rfl ⟨by rw [hr]; rfl, hB⟩
end Go.Proofs.Ytioediibbgklcaa.W
