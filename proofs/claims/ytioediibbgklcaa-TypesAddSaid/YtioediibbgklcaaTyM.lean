/- A variant that is looked for; a row of types cloned. -/
import Derived.Test.YtioediibbgklcaaTyL
import Derived.Laws.AppendOwn
namespace Go.Proofs.Ytioediibbgklcaa.W
open Go Go.RowKit Go.Proofs
set_option linter.unusedVariables false
set_option linter.unusedSimpArgs false
set_option maxHeartbeats 4000000 in
set_option maxRecDepth 100000 in
theorem varp_calls (W : World) (nm : ByteArray) (ta : Option Addr) (tn tc : Nat) (x : Int) (sb : Nat) (s : ByteArray) (hsb : sb < W.heap.size) (hs : W.cell? ⟨sb, 0, none⟩ = some (.string s)) :
    Calls Try.prog 27 #[.agg #[.string nm, .slice ta tn tc, .int .i64 x], .pointer (some ⟨sb, 0, none⟩)] W fun e w' => e = .returned (.bool (nm.toList == s.toList)) ∧ Below W.heap.size W w' := by
  go_enter Try.func27, Try.ntmps27
  go_wp2
  exact bodyPost_ret (v := .bool (nm.toList == s.toList)) (by simp [results, Try.results27, go_sem]) rfl ⟨rfl, (Below.refl _ W).alloc (Nat.le_refl _) _⟩
def isVar (s : ByteArray) (v : ByteArray × List Ty) : Bool := v.1.toList == s.toList
set_option maxHeartbeats 4000000 in
set_option maxRecDepth 100000 in
theorem findv_calls (W0 W : World) (hb : Below W0.heap.size W0 W) (va : Option Addr) (vs : List (ByteArray × List Ty)) (vc : Nat) (hn : vs.length ≤ 9223372036854775807) (hV : VsAt W0 va vs) (sb : Nat) (s : ByteArray) (hsb : sb < W.heap.size) (hs : W.cell? ⟨sb, 0, none⟩ = some (.string s)) :
    Calls Try.prog 26 #[.slice va vs.length vc, .func (.func 27) #[] #[.pointer (some ⟨sb, 0, none⟩)]] W fun e w' => e = .returned (.int .i64 (idxOf (vs.findIdx? (isVar s)))) ∧ Below W.heap.size W w' := by
  obtain ⟨n, hnl⟩ : ∃ n, vs.length = n := ⟨_, rfl⟩
  have HN := Lib.hid hnl
  rw [hnl] at hn
  simp only [hnl]
  clear hnl
  go_enter Try.func26, Try.ntmps26
  go_wp2
  go_loopw [8, 5] (fun i j wr => ∃ k : Nat, k ≤ n ∧ i = .int .i64 k ∧ Below W.heap.size W wr ∧ ∀ q y, q < k → vs[q]? = some y → isVar s y = false) (fun i _ _ => n - (intOf i).toNat)
  case atStart => exact ⟨0, Nat.zero_le _, rfl, Below.refl _ _, fun q y h => absurd h (by omega)⟩
  case round =>
    obtain ⟨k, hk, rfl, hB, hno⟩ := hrel
    by_cases hlt : k < n
    · obtain ⟨vr, hvr⟩ : ∃ vr, vs[k]? = some vr := ⟨_, List.getElem?_eq_getElem (by have := HN.out; omega)⟩
      obtain ⟨b, o, ta, tc, x, rfl, x0, x1, x2, hvl, hts⟩ := hV k vr hvr
      have hB0 : Below W0.heap.size W0 wr := hb.trans (hB.mono hb.size)
      have y0 := keep_cell hB0 x0
      have y1 := keep_cell hB0 x1
      have y2 := keep_cell hB0 x2
      have htw := (hB.cell (p := ⟨sb, 0, none⟩) hsb).trans hs
      have htl : sb < wr.heap.size := Nat.lt_of_lt_of_le hsb hB.size
      have hcall := varp_calls wr vr.1 ta vr.2.length tc x sb s htl htw
      cases hpp : isVar s vr with
      | true =>
        have hq : (vr.1.toList == s.toList) = true := hpp
        rw [hq] at hcall
        go_wp2_with (go_at_call 27; refine hcall.mono ?_; rintro e w1 ⟨rfl, hb1⟩)
        have hr : vs.findIdx? (isVar s) = some k := findIdx_at hvr hpp hno
        exact bodyPost_ret (v := .int .i64 k) (by simp [results, Try.results26, go_sem]) rfl ⟨by rw [hr]; rfl, hB.trans (hb1.mono hB.size)⟩
      | false =>
        have hq : (vr.1.toList == s.toList) = false := hpp
        rw [hq] at hcall
        go_wp2_with (go_at_call 27; refine hcall.mono ?_; rintro e w1 ⟨rfl, hb1⟩)
        go_roundw
        case rel =>
          refine ⟨k + 1, by omega, by go_num, hB.trans (hb1.mono hB.size), fun q y hq hy => ?_⟩
          by_cases c : q < k
          · exact hno q y c hy
          · obtain rfl : q = k := by omega
            rw [hvr] at hy; injection hy with hy; subst hy; exact hpp
        case measure => simp [intOf]; omega
    · obtain rfl : k = n := by omega
      have hr : vs.findIdx? (isVar s) = none := findIdx_no fun q y hq hy => hno q y (by have := HN.out; omega) hy
      go_wp2
      exact bodyPost_ret (v := .int .i64 (-1)) (by simp [results, Try.results26, go_sem]) rfl ⟨by rw [hr]; rfl, hB⟩
end Go.Proofs.Ytioediibbgklcaa.W
