/- ferruleref05.Item: which item a name is of. -/
import Derived.Test.YtioediibbgklcaaTyT
namespace Go.Proofs.Ytioediibbgklcaa.W
open Go Go.RowKit Go.Proofs
set_option linter.unusedVariables false
set_option linter.unusedSimpArgs false
theorem ItAt.heads {W : World} {cs : List Value} {it : It} (h : ItAt W cs it) : ∃ pa pc va vc, cs.length = 20 ∧ cs[0]? = some (.int .i64 it.kind) ∧ cs[1]? = some (.string it.name) ∧ cs[3]? = some (.slice pa it.ps.length pc) ∧ cs[4]? = some (.slice va it.vs.length vc) ∧ it.ps.length ≤ 9223372036854775807 ∧ it.vs.length ≤ 9223372036854775807 ∧ PsAt W pa it.ps ∧ VsAt W va it.vs := by
  obtain ⟨pa, pc, va, vc, t, rfl, h1, h2, h3, h4⟩ := h.ex
  exact ⟨pa, pc, va, vc, rfl, rfl, rfl, rfl, rfl, h1, h2, h3, h4⟩
set_option maxHeartbeats 4000000 in
set_option maxRecDepth 100000 in
theorem index_calls (W0 W : World) (hb : Below W0.heap.size W0 W) (la : Option Addr) (its : List It) (lc : Nat) (hn : its.length ≤ 9223372036854775807) (hI : ItsAt W0 la its) (nm : ByteArray) :
    Calls Try.prog 11 #[.slice la its.length lc, .string nm] W fun e w' => e = .returned (.int .i64 (idxOf (its.findIdx? (named? nm)))) ∧ Below W.heap.size W w' := by
  obtain ⟨n, hnl⟩ : ∃ n, its.length = n := ⟨_, rfl⟩
  have HN := Lib.hid hnl
  rw [hnl] at hn
  simp only [hnl]
  clear hnl
  go_enter Try.func11, Try.ntmps11
  go_wp2
  go_loopw [5] (fun i wr => ∃ k : Nat, k ≤ n ∧ i = .int .i64 k ∧ wr = W ∧ ∀ q y, q < k → its[q]? = some y → named? nm y = false) (fun i _ => n - (intOf i).toNat)
  case atStart => exact ⟨0, Nat.zero_le _, rfl, rfl, fun q y h => absurd h (by omega)⟩
  case round =>
    obtain ⟨k, hk, rfl, rfl, hno⟩ := hrel
    by_cases hlt : k < n
    · obtain ⟨it, hit⟩ : ∃ it, its[k]? = some it := ⟨_, List.getElem?_eq_getElem (by have := HN.out; omega)⟩
      obtain ⟨b, o, cs, rfl, hl, hcs, hIt⟩ := hI k it hit
      obtain ⟨pa, pc, va, vc, _, q0, q1, _⟩ := hIt.heads
      have x0 := keep_cell hb ((hcs 0 (by omega)).trans q0)
      have x1 := keep_cell hb ((hcs 1 (by omega)).trans q1)
      rw [Nat.add_zero] at x0
      clear hcs hIt q0 q1
      have hnm : named? nm it = ((it.kind == 2 || it.kind == 3) && it.name.toList == nm.toList) := rfl
      have HNM := Lib.hid hnm
      clear hnm
      by_cases hkd : it.kind = 2 ∨ it.kind = 3
      · cases hs : (it.name.toList == nm.toList) with
        | true =>
          have hpp : named? nm it = true := by rw [HNM.out, hs]; rcases hkd with h | h <;> simp [h]
          have hr : its.findIdx? (named? nm) = some k := findIdx_at hit hpp hno
          have HR := Lib.hid hr
          clear hr hpp
          rcases hkd with h | h
          · rw [h] at x0
            go_wp2
            exact bodyPost_ret (v := .int .i64 k) (by simp [results, Try.results11, go_sem]) rfl ⟨by rw [HR.out]; rfl, Below.refl _ _⟩
          · rw [h] at x0
            go_wp2
            exact bodyPost_ret (v := .int .i64 k) (by simp [results, Try.results11, go_sem]) rfl ⟨by rw [HR.out]; rfl, Below.refl _ _⟩
        | false =>
          have hpp : named? nm it = false := by rw [HNM.out, hs]; simp
          rcases hkd with h | h
          all_goals
            rw [h] at x0
            go_wp2
            go_roundw
            case rel =>
              refine ⟨k + 1, by omega, by go_num, trivial, fun q y hq hy => ?_⟩
              by_cases c : q < k
              · exact hno q y c hy
              · obtain rfl : q = k := by omega
                rw [hit] at hy; injection hy with hy; subst hy; exact hpp
            case measure => simp [intOf]; omega
      · have h2 : ¬ it.kind = 2 := fun h => hkd (.inl h)
        have h3 : ¬ it.kind = 3 := fun h => hkd (.inr h)
        have hpp : named? nm it = false := by rw [HNM.out]; simp [h2, h3]
        clear hkd
        go_wp2
        go_roundw
        case rel =>
          refine ⟨k + 1, by omega, by go_num, trivial, fun q y hq hy => ?_⟩
          by_cases c : q < k
          · exact hno q y c hy
          · obtain rfl : q = k := by omega
            rw [hit] at hy; injection hy with hy; subst hy; exact hpp
        case measure => simp [intOf]; omega
    · obtain rfl : k = n := by omega
      have hr : its.findIdx? (named? nm) = none := findIdx_no fun q y hq hy => hno q y (by have := HN.out; omega) hy
      go_wp2
      exact bodyPost_ret (v := .int .i64 (-1)) (by simp [results, Try.results11, go_sem]) rfl ⟨by rw [hr]; rfl, Below.refl _ _⟩
end Go.Proofs.Ytioediibbgklcaa.W
