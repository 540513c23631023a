/- few: items few enough for the law's own looks. -/
import Derived.Test.YtioediibbgklcaaTyY
namespace Go.Proofs.Ytioediibbgklcaa.W
open Go Go.RowKit Go.Proofs
set_option linter.unusedVariables false
set_option linter.unusedSimpArgs false
/-- An item of less than 300 of each. -/
structure Scant (it : It) : Prop where
  ps : it.ps.length < 300
  vs : it.vs.length < 300
  each : ∀ (i : Nat) v, it.vs[i]? = some v → v.2.length < 300
structure FewOf (its : List It) : Prop where
  len : its.length < 300
  each : ∀ (i : Nat) it, its[i]? = some it → Scant it
/-- What few answers. -/
structure FewT (its : List It) (e : Ending) : Prop where
  ex : ∃ b, e = .returned (.bool b) ∧ (b = true → FewOf its)
set_option maxHeartbeats 4000000 in
set_option maxRecDepth 100000 in
theorem few_calls (W0 W : World) (hb : Below W0.heap.size W0 W) (la : Option Addr) (its : List It) (lc : Nat) (hn : its.length ≤ 140737488351232) (hI : ItsAt W0 la its) (hS : ∀ (i : Nat) it, its[i]? = some it → Small it) :
    Calls Try.prog 8 #[.slice la its.length lc] W fun e w' => FewT its e ∧ Below W.heap.size W w' := by
  obtain ⟨n, hnl⟩ : ∃ n, its.length = n := ⟨_, rfl⟩
  have HN := Lib.hid hnl
  rw [hnl] at hn
  simp only [hnl]
  clear hnl
  go_enter Try.func8, Try.ntmps8
  go_wp2
  go_loopw [3, 4] (fun sv i wr => ∃ k s : Nat, k ≤ n ∧ sv = .int .i64 s ∧ i = .int .i64 k ∧ Below W.heap.size W wr ∧ n ≤ s ∧ s ≤ 1000000000000000 ∧ (s < 300 → ∀ q y, q < k → its[q]? = some y → Scant y)) (fun _ i _ => n - (intOf i).toNat)
  case atStart => exact ⟨0, n, Nat.zero_le _, rfl, rfl, Below.refl _ _, Nat.le_refl _, by omega, fun _ q y h => absurd h (by omega)⟩
  case round =>
    obtain ⟨k, s, hk, rfl, rfl, hB, hns, hs, hall⟩ := hrel
    by_cases hlt : k < n
    · by_cases h300 : s < 300
      · obtain ⟨it, hit⟩ : ∃ it, its[k]? = some it := ⟨_, List.getElem?_eq_getElem (by have := HN.out; omega)⟩
        obtain ⟨b, o, cs, rfl, hl, hcs, hIt⟩ := hI k it hit
        obtain ⟨hps, hvs, heach⟩ := hS k it hit
        obtain ⟨pa, pc, va, vc, _, _, _, q3, q4, _, _, _, hVs⟩ := hIt.heads
        have hB0 := hb.trans (hB.mono hb.size)
        have x3 := keep_cell hB0 ((hcs 3 (by omega)).trans q3)
        have x4 := keep_cell hB0 ((hcs 4 (by omega)).trans q4)
        have hall' := hall h300
        obtain ⟨p, hp⟩ : ∃ p, it.ps.length = p := ⟨_, rfl⟩
        obtain ⟨v, hv⟩ : ∃ v, it.vs.length = v := ⟨_, rfl⟩
        rw [hp] at x3 hps
        rw [hv] at x4 hvs q4
        have HP := Lib.hid hp
        have HV := Lib.hid hv
        have HA := Lib.hid hall'
        have HE := Lib.hid heach
        have HC := Lib.hid ((hcs 4 (by omega)).trans q4)
        clear hcs q3 q4 hIt hp hv hall hall' heach
        have h3 : (s : Int) < 300 := by omega
        go_upto_region 6 with fail
        go_region
        all_goals
          have hBd := below_dr hB
          have hB0d := hb.trans (hBd.mono hb.size)
          go_wp2
          go_loopw [3, 5] (fun sv jv wx => ∃ j t : Nat, j ≤ v ∧ sv = .int .i64 t ∧ jv = .int .i64 j ∧ Below W.heap.size W wx ∧ s + p + v ≤ t ∧ t ≤ 1000000000000000 ∧ (t < 300 → ∀ q y, q < j → it.vs[q]? = some y → y.2.length < 300)) (fun _ j _ => v - (intOf j).toNat)
          case atStart => exact ⟨0, s + p + v, Nat.zero_le _, by simp, rfl, hBd, Nat.le_refl _, by omega, fun _ q y h => absurd h (by omega)⟩
          case round =>
            obtain ⟨j, t, hj, rfl, rfl, hBx, hst, ht, hin⟩ := hrel
            have hB0x := hb.trans (hBx.mono hb.size)
            have z4 := keep_cell hB0x HC.out
            by_cases hjv : j < v
            · by_cases ht3 : t < 300
              · have ht3' : (t : Int) < 300 := by omega
                obtain ⟨y, hy⟩ : ∃ y, it.vs[j]? = some y := ⟨_, List.getElem?_eq_getElem (by have := HV.out; omega)⟩
                obtain ⟨b2, o2, ta, tc, x, rfl, y0, y1, y2, hyl, hyt⟩ := hVs j y hy
                have g1 := keep_cell hB0x y1
                have hin' := hin ht3
                have hyl2 := HE.out j y hy
                obtain ⟨m, hm⟩ : ∃ m, y.2.length = m := ⟨_, rfl⟩
                rw [hm] at g1 hyl2
                have HM := Lib.hid hm
                have HIN := Lib.hid hin'
                clear hin hin' hm hyl y0 y1 y2
                go_wp2
                go_roundw
                case rel =>
                  refine ⟨j + 1, t + m, by omega, by go_num, by go_num, hBx, by omega, by omega, fun h q y' hq hy' => ?_⟩
                  by_cases c : q < j
                  · exact HIN.out q y' c hy'
                  · obtain rfl : q = j := by omega
                    rw [hy] at hy'; injection hy' with hy'; subst hy'
                    have := HM.out
                    omega
                case measure => simp [intOf]; omega
              · have ht3' : ¬ (t : Int) < 300 := by omega
                go_wp2
                go_roundw
                case rel =>
                  exact ⟨k + 1, t, by omega, rfl, by go_num, hBx, by omega, by omega, fun h => absurd h ht3⟩
                case measure => simp [intOf]; omega
            · obtain rfl : j = v := by omega
              go_wp2
              go_roundw
              case rel =>
                refine ⟨k + 1, t, by omega, rfl, by go_num, hBx, by omega, by omega, fun h q y hq hy => ?_⟩
                by_cases c : q < k
                · exact HA.out q y c hy
                · obtain rfl : q = k := by omega
                  rw [hit] at hy; injection hy with hy; subst hy
                  have h1 := HP.out
                  have h2 := HV.out
                  exact ⟨by omega, by omega, fun i v hv => hin h i v (by have := (List.getElem?_eq_some_iff.1 hv).1; omega) hv⟩
              case measure => simp [intOf]; omega
      · have h3 : ¬ (s : Int) < 300 := by omega
        go_wp2
        exact bodyPost_ret (v := .bool false) (by simp [results, Try.results8, go_sem]) rfl ⟨⟨⟨_, rfl, fun h => by cases h⟩⟩, hB⟩
    · obtain rfl : k = n := by omega
      by_cases h300 : s < 300
      · have h3 : (s : Int) < 300 := by omega
        go_wp2
        exact bodyPost_ret (v := .bool true) (by simp [results, Try.results8, go_sem]) rfl ⟨⟨⟨_, rfl, fun _ => ⟨by have := HN.out; omega, fun q y hy => hall h300 q y (by have := (List.getElem?_eq_some_iff.1 hy).1; have := HN.out; omega) hy⟩⟩⟩, hB⟩
      · have h3 : ¬ (s : Int) < 300 := by omega
        go_wp2
        exact bodyPost_ret (v := .bool false) (by simp [results, Try.results8, go_sem]) rfl ⟨⟨⟨_, rfl, fun h => by cases h⟩⟩, hB⟩
end Go.Proofs.Ytioediibbgklcaa.W
