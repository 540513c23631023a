/- meet and walker.set, of flows whose maps stand in whatever order. -/
import Derived.Test.YtbobnbndbgpanaaGreatMpD
namespace Go.Proofs.YtbobnbndbgpanaaGreat.W
open Go Go.RowKit Go.Proofs Go.Proofs.YtbobnbndbgpanaaGreat.Sx
open Go.ChangeMaps (setBlock)
set_option linter.unusedVariables false
set_option linter.unusedSimpArgs false
/-- A new flow. -/
structure Made (W : World) (L : List (Int × Bool)) (e : Ending) (w' : World) : Prop where
  ex : ∃ nb nm, e = .returned (.pointer (some ⟨nb, 0, none⟩)) ∧ Below W.heap.size W w' ∧ W.heap.size ≤ nb ∧ W.heap.size ≤ nm ∧ nb ≠ nm ∧ w'.heap[nb]? = some (.cells #[.map (some nm)] 54 (0, 0)) ∧ HasMap w' nm L
set_option maxHeartbeats 4000000 in
set_option maxRecDepth 100000 in
theorem clone_nil (W : World) : Calls Tryz.prog 100 #[.pointer none] W fun e w' => e = .returned (.pointer none) ∧ Below W.heap.size W w' := by
  go_enter Tryz.func100, Tryz.ntmps100
  go_wp2
  go_ret
  exact ⟨rfl, Below.refl _ _⟩
set_option maxHeartbeats 4000000 in
set_option maxRecDepth 100000 in
theorem meet_nil (W : World) : Calls Tryz.prog 55 #[.pointer none, .pointer none] W fun e w' => e = .returned (.pointer none) ∧ Below W.heap.size W w' := by
  go_enter Tryz.func55, Tryz.ntmps55
  go_wp2_with (go_at_call 100; refine (clone_nil _).mono ?_; rintro e w1 ⟨rfl, hb⟩)
  go_ret
  exact ⟨rfl, hb⟩
set_option maxHeartbeats 4000000 in
set_option maxRecDepth 100000 in
theorem meet_right (W : World) (b o mb : Nat) (L : List (Int × Bool)) (hm : HasMap W mb L) (hc : W.cell? ⟨b, o, none⟩ = some (.map (some mb))) (hb : b < W.heap.size) :
    Calls Tryz.prog 55 #[.pointer none, .pointer (some ⟨b, o, none⟩)] W (Made W L) := by
  go_enter Tryz.func55, Tryz.ntmps55
  go_wp2_with (go_at_call 100; refine (clone_calls W b o mb L hm hc hb).mono ?_; rintro e w1 ⟨nb, nm, rfl, hX⟩)
  exact bodyPost_ret (v := .pointer (some ⟨nb, 0, none⟩)) (by simp [results, Tryz.results55, go_sem]) rfl ⟨nb, nm, rfl, hX⟩
set_option maxHeartbeats 4000000 in
set_option maxRecDepth 100000 in
theorem meet_left (W : World) (b o mb : Nat) (L : List (Int × Bool)) (hm : HasMap W mb L) (hc : W.cell? ⟨b, o, none⟩ = some (.map (some mb))) (hb : b < W.heap.size) :
    Calls Tryz.prog 55 #[.pointer (some ⟨b, o, none⟩), .pointer none] W (Made W L) := by
  go_enter Tryz.func55, Tryz.ntmps55
  go_wp2_with (go_at_call 100; refine (clone_calls W b o mb L hm hc hb).mono ?_; rintro e w1 ⟨nb, nm, rfl, hX⟩)
  exact bodyPost_ret (v := .pointer (some ⟨nb, 0, none⟩)) (by simp [results, Tryz.results55, go_sem]) rfl ⟨nb, nm, rfl, hX⟩
set_option maxHeartbeats 4000000 in
set_option maxRecDepth 100000 in
theorem meet_both (W : World) (a p ma b o mb : Nat) (L M0 : List (Int × Bool)) (hma : HasMap W ma L) (hca : W.cell? ⟨a, p, none⟩ = some (.map (some ma))) (ha : a < W.heap.size) (hm : HasMap W mb M0) (hc : W.cell? ⟨b, o, none⟩ = some (.map (some mb))) (hb : b < W.heap.size) :
    Calls Tryz.prog 55 #[.pointer (some ⟨a, p, none⟩), .pointer (some ⟨b, o, none⟩)] W (Made W (orAll L M0)) := by
  go_enter Tryz.func55, Tryz.ntmps55
  go_upto_region 4 with (go_at_call 100; refine (clone_calls W a p ma L hma hca ha).mono ?_; rintro e w2 ⟨nb, nm, rfl, hB2, l1, l2, hnn, hfl, hN⟩)
  have hm2 := hm.keep (hB2.block mb hm.lt)
  have hc2 : w2.cell? ⟨b, o, none⟩ = some (.map (some mb)) := (hB2.cell (p := ⟨b, o, none⟩) hb).trans hc
  obtain ⟨es, c, M, hrun, hI, hLM⟩ := range_start hm2
  have hlb : nb < w2.heap.size := (Array.getElem?_eq_some_iff.1 hfl).1
  have hlm := hN.lt
  have hlmb := hm.lt
  have hB2s := hB2.size
  go_wp2
  have hb3 : Below w2.heap.size w2 (w2.alloc (.mapIter (some mb) c #[] c)) := (Below.refl _ _).alloc (Nat.le_refl _) _
  obtain ⟨r, hr⟩ : ∃ r, w2.heap.size = r := ⟨_, rfl⟩
  have hF : Fill W mb nm nb r M [] M L (w2.alloc (.mapIter (some mb) c #[] c)) := by
    refine ⟨hB2.trans (hb3.mono hB2.size), (hb3.block _ hlb).trans hfl, hN.keep (hb3.block _ hlm), ⟨es, c, #[], ?_⟩, List.Perm.refl _, (get_perm hm.keys hLM).1, l2, l1, by omega, fun e => hnn e.symm, by omega, by omega, hm.lt⟩
    rw [← hr]; exact hI
  obtain ⟨w3, hw3⟩ : ∃ y, w2.alloc (.mapIter (some mb) c #[] c) = y := ⟨_, rfl⟩
  rw [hw3] at hF ⊢
  rw [hr]
  have HP := Lib.hid hLM
  have HK := Lib.hid hm.keys
  have HL := Lib.hid hma.keys
  clear hLM hI hrun hc2 hm2 hb3 hw3 hm hc hb hma hca ha hlb hlm hN hfl
  go_loopg [6, 7] M.length (fun g kv vv wx => ∃ (done todo : List (Int × Bool)), g = todo.length ∧ Fill W mb nm nb r M done todo L wx)
  case atStart => exact ⟨[], M, rfl, hF⟩
  case round =>
    clear hF
    obtain ⟨done, todo, rfl, hF⟩ := hrel
    obtain ⟨es, c, seen, hI⟩ := hF.it
    rcases next_run hI 0 with ⟨rfl, hnx⟩ | ⟨k, v, todo', w1, seen', hp, hnx, hI1, hg, hs, hen⟩
    · go_wp2
      refine bodyPost_ret (v := .pointer (some ⟨nb, 0, none⟩)) (by simp [results, Tryz.results55, go_sem]) rfl ⟨nb, nm, rfl, hF.bel, l1, l2, hnn, hF.flow, ?_⟩
      have hpd : done.Perm M := by have := hF.parts; rwa [List.append_nil] at this
      have hkd : keysN done := (get_perm hF.keys hpd.symm).1
      have h1 : (orAll L M0).Perm (orAll L done) := orAll_perm HL.out HK.out (HP.out.trans hpd.symm)
      obtain ⟨es', c', M', g1, g2, g3, g4⟩ := hF.new.ex
      exact ⟨orAll_keys HL.out, es', c', M', g1, g2, h1.trans g3, g4⟩
    · have hnl := hF.new.lt
      have hnew : HasMap w1 nm (orAll L done) := hF.new.keep (hg.block _ hnl (by intro e; injection e with e; exact hF.o5 e))
      have hcell : w1.cell? ⟨nb, 0, none⟩ = some (.map (some nm)) := (World.cell?_of_block (hg.block nb (Array.getElem?_eq_some_iff.1 hF.flow).1 (by intro e; injection e with e; exact hF.o6 e))).trans hF.cell
      have hnew2 : HasMap w1.drew nm (orAll L done) := hnew.keep rfl
      obtain ⟨gv, hgv⟩ : ∃ gv, (get (orAll L done) k).getD false = gv := ⟨_, rfl⟩
      have lk := run_look hnew k
      have lk2 := run_look hnew2 k
      rw [hgv] at lk lk2
      obtain ⟨o', hup, hu⟩ := run_update hnew2 k (gv || v)
      have hF2 := hF.step (w1 := w1.drew) hp (hI1.keep rfl rfl) ⟨hg.os, hg.tape, hg.output, hg.size, hg.block⟩ hs hu (by rw [hgv])
      clear hI hnew hnew2 hu hg hs hnl
      clear hgv
      cases gv with
      | true =>
        rw [Bool.true_or] at hup
        go_upto_region 8 with fail
        go_region
        all_goals
          go_wp2
          go_roundg todo'.length
          case measure => rw [hp.length_eq]; simp
          case rel => exact ⟨done ++ [(k, v)], todo', rfl, hF2⟩
      | false =>
        rw [Bool.false_or] at hup
        go_upto_region 8 with fail
        go_region
        all_goals
          go_wp2
          go_roundg todo'.length
          case measure => rw [hp.length_eq]; simp
          case rel => exact ⟨done ++ [(k, v)], todo', rfl, hF2⟩
set_option maxHeartbeats 4000000 in
set_option maxRecDepth 100000 in
theorem set_calls (W : World) (b o f q mb : Nat) (L : List (Int × Bool)) (k : Int) (v : Bool) (hk : 0 ≤ k) (hm : HasMap W mb L) (hc : W.cell? ⟨b, o + 1, none⟩ = some (.pointer (some ⟨f, q, none⟩))) (hd : W.cell? ⟨f, q, none⟩ = some (.map (some mb))) :
    Calls Tryz.prog 29 #[.pointer (some ⟨b, o, none⟩), .int .i64 k, .bool v] W fun e w' => e = .returned (.tuple #[]) ∧ ∃ ob, w' = setBlock W mb ob ∧ HasMap w' mb (setL k v L) := by
  obtain ⟨ob, hup, hu⟩ := run_update hm k v
  go_enter Tryz.func29, Tryz.ntmps29
  go_wp2
  refine bodyPost_end (results_none rfl _ _ _) rfl ⟨rfl, ob, rfl, hu⟩
end Go.Proofs.YtbobnbndbgpanaaGreat.W
