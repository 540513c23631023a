/- flow.clone, of a flow whose map stands in whatever order. -/
import Derived.Test.YtbobnbndbgpanaaGreatMpC
import Derived.WalkKit
import Derived.ProofKit
import Derived.Lib.Hide
import Derived.RegionTactic
import Derived.Deep.LoopGhost
import Derived.Deep.DeepCutAuto
namespace Go.Proofs.YtbobnbndbgpanaaGreat.W
open Go Go.RowKit Go.Proofs Go.Proofs.YtbobnbndbgpanaaGreat.Sx
open Go.ChangeMaps (setBlock)
set_option linter.unusedVariables false
set_option linter.unusedSimpArgs false
/-- A map that is filled while another one is gone over. -/
structure Fill (W : World) (mb nm nb r : Nat) (M done todo : List (Int × Bool)) (X : List (Int × Bool)) (wx : World) : Prop where
  bel : Below W.heap.size W wx
  flow : wx.heap[nb]? = some (.cells #[.map (some nm)] 54 (0, 0))
  new : HasMap wx nm (orAll X done)
  it : ∃ es c seen, Iter wx r mb es c seen todo
  parts : (done ++ todo).Perm M
  keys : keysN M
  o1 : W.heap.size ≤ nm
  o2 : W.heap.size ≤ nb
  o3 : W.heap.size ≤ r
  o4 : nm ≠ nb
  o5 : nm ≠ r
  o6 : nb ≠ r
  o7 : mb < W.heap.size
theorem HasMap.keep {W W' : World} {mb : Nat} {L : List (Int × Bool)} (h : HasMap W mb L) (e : W'.heap[mb]? = W.heap[mb]?) : HasMap W' mb L := by
  obtain ⟨es, c, M, g1, g2⟩ := h.ex
  exact ⟨h.keys, es, c, M, e.trans g1, g2⟩
theorem HasMap.lt {W : World} {mb : Nat} {L : List (Int × Bool)} (h : HasMap W mb L) : mb < W.heap.size := by
  obtain ⟨es, c, M, g1, g2⟩ := h.ex
  exact (Array.getElem?_eq_some_iff.1 g1).1
theorem Iter.keep {W W' : World} {r mb : Nat} {es : Array MapEntry} {c : Nat} {seen : Array Nat} {todo : List (Int × Bool)} (h : Iter W r mb es c seen todo) (e1 : W'.heap[r]? = W.heap[r]?) (e2 : W'.heap[mb]? = W.heap[mb]?) : Iter W' r mb es c seen todo :=
  ⟨e1.trans h.it, e2.trans h.at', h.left, h.nd, h.lt⟩
theorem Fill.cell {W wx : World} {mb nm nb r : Nat} {M done todo X : List (Int × Bool)} (h : Fill W mb nm nb r M done todo X wx) : wx.cell? ⟨nb, 0, none⟩ = some (.map (some nm)) := by
  rw [cell_of_row _ _ _ _ 54 (0, 0) h.flow]; rfl
theorem HasMap.empty (W : World) : HasMap (W.alloc (.map #[] 0)) W.heap.size [] :=
  ⟨by simp [keysN], #[], 0, [], heap_alloc_new W _, rfl, List.Perm.refl _, by simp, by simp⟩
/-- One more step, and the entry laid. -/
theorem Fill.step {W wx w1 : World} {mb nm nb r : Nat} {M done todo todo' X : List (Int × Bool)} {k : Int} {v : Bool} {es : Array MapEntry} {c : Nat} {seen' : Array Nat} {o : Obj} {v' : Bool} (h : Fill W mb nm nb r M done todo X wx)
    (hp : todo.Perm ((k, v) :: todo')) (hi : Iter w1 r mb es c seen' todo') (hg : wx.grownBy w1 (some r)) (hs : w1.heap.size = wx.heap.size)
    (hu : HasMap (setBlock w1 nm o) nm (setL k v' (orAll X done))) (hv : v' = ((get (orAll X done) k).getD false || v)) : Fill W mb nm nb r M (done ++ [(k, v)]) todo' X (setBlock w1 nm o) := by
  have hb1 : Below W.heap.size W w1 := h.bel.grown hg h.bel.size (fun k e => by injection e with e; have := h.o3; omega)
  have hg2 := setBlock_grown w1 nm o
  have hb2 : Below W.heap.size W (setBlock w1 nm o) := hb1.grown hg2 hb1.size (fun k e => by injection e with e; have := h.o1; omega)
  have hnb : nb < wx.heap.size := (Array.getElem?_eq_some_iff.1 h.flow).1
  have hr := hi.it
  have hrl : r < w1.heap.size := (Array.getElem?_eq_some_iff.1 hr).1
  have hml : mb < w1.heap.size := (Array.getElem?_eq_some_iff.1 hi.at').1
  refine ⟨hb2, ?_, ?_, ⟨es, c, seen', hi.keep ?_ ?_⟩, ?_, h.keys, h.o1, h.o2, h.o3, h.o4, h.o5, h.o6, h.o7⟩
  · rw [hg2.block nb (by omega) (by intro e; injection e with e; exact h.o4 e.symm), hg.block nb hnb (by intro e; injection e with e; exact h.o6 e)]
    exact h.flow
  · rw [orAll_snoc]
    subst hv
    exact hu
  · exact hg2.block r hrl (by intro e; injection e with e; exact h.o5 e.symm)
  · exact hg2.block mb hml (by intro e; injection e with e; have := h.o1; have := h.o7; omega)
  · refine (List.Perm.trans ?_ h.parts)
    rw [List.append_assoc]
    exact (List.Perm.append_left done hp).symm
theorem Fill.fresh {W wx : World} {mb nm nb r : Nat} {M done todo todo' X : List (Int × Bool)} {k : Int} {v : Bool} (h : Fill W mb nm nb r M done todo X wx) (hp : todo.Perm ((k, v) :: todo')) : get done k = none := by
  have h1 : keysN (done ++ ((k, v) :: todo')) := by
    have : (done ++ ((k, v) :: todo')).Perm M := (List.Perm.append_left done hp).symm.trans h.parts
    exact (get_perm h.keys this.symm).1
  rw [get_none]
  unfold keysN at h1
  rw [List.map_append, List.nodup_append] at h1
  intro hm
  exact h1.2.2 k hm k (by simp) rfl
theorem keys_left {d t M : List (Int × Bool)} (hM : keysN M) (h : (d ++ t).Perm M) : keysN d := by
  have := (get_perm hM h.symm).1
  unfold keysN at this ⊢
  rw [List.map_append, List.nodup_append] at this
  exact this.1
set_option maxHeartbeats 4000000 in
set_option maxRecDepth 100000 in
theorem clone_calls (W : World) (b o mb : Nat) (L : List (Int × Bool)) (hm : HasMap W mb L) (hc : W.cell? ⟨b, o, none⟩ = some (.map (some mb))) (hb : b < W.heap.size) :
    Calls Tryz.prog 100 #[.pointer (some ⟨b, o, none⟩)] W fun e w' => ∃ nb nm, e = .returned (.pointer (some ⟨nb, 0, none⟩)) ∧ Below W.heap.size W w' ∧ W.heap.size ≤ nb ∧ W.heap.size ≤ nm ∧ nb ≠ nm ∧ w'.heap[nb]? = some (.cells #[.map (some nm)] 54 (0, 0)) ∧ HasMap w' nm L := by
  go_enter Tryz.func100, Tryz.ntmps100
  have hmk : ∀ W, (Instr.makeMap 52 none).run Tryz.prog W = .ok (.map (some W.heap.size)) (W.alloc (.map #[] 0)) := fun W => by simp [Instr.makeMap]
  go_upto_region 4 with fail
  have hE := HasMap.empty W
  obtain ⟨w1, hw1⟩ : ∃ y, W.alloc (.map #[] 0) = y := ⟨_, rfl⟩
  have hb1 : Below W.heap.size W w1 := by rw [← hw1]; exact (Below.refl _ _).alloc (Nat.le_refl _) _
  have hs1 : w1.heap.size = W.heap.size + 1 := by rw [← hw1]; simp
  rw [hw1] at hE ⊢
  have hat : (w1.alloc (.cells #[.map (some W.heap.size)] 54)).heap[w1.heap.size]? = some (.cells #[.map (some W.heap.size)] 54 (0, 0)) := heap_alloc_new w1 _
  obtain ⟨w2, hw2⟩ : ∃ y, w1.alloc (.cells #[.map (some W.heap.size)] 54) = y := ⟨_, rfl⟩
  have hb2 : Below w1.heap.size w1 w2 := by rw [← hw2]; exact (Below.refl _ _).alloc (Nat.le_refl _) _
  have hs2 : w2.heap.size = W.heap.size + 2 := by rw [← hw2]; simp [hs1]
  rw [hw2] at hat
  rw [show w1.alloc (.cells #[.map (some W.heap.size)] 54) = w2 from hw2]
  have hE2 := hE.keep (hb2.block W.heap.size (by omega))
  have hm1 := hm.keep (hb1.block mb hm.lt)
  have hm2 := hm1.keep (hb2.block mb (by have := hm.lt; omega))
  have hB2 : Below W.heap.size W w2 := hb1.trans (hb2.mono hb1.size)
  have hc2 : w2.cell? ⟨b, o, none⟩ = some (.map (some mb)) := (hB2.cell (p := ⟨b, o, none⟩) hb).trans hc
  obtain ⟨es, c, M, hrun, hI, hLM⟩ := range_start hm2
  go_wp2
  have hb3 : Below w2.heap.size w2 (w2.alloc (.mapIter (some mb) c #[] c)) := (Below.refl _ _).alloc (Nat.le_refl _) _
  have hF : Fill W mb W.heap.size (W.heap.size + 1) (W.heap.size + 2) M [] M [] (w2.alloc (.mapIter (some mb) c #[] c)) := by
    refine ⟨hB2.trans (hb3.mono hB2.size), ?_, hE2.keep (hb3.block _ (by omega)), ⟨es, c, #[], ?_⟩, List.Perm.refl _, (get_perm hm.keys hLM).1, Nat.le_refl _, by omega, by omega, by omega, by omega, by omega, hm.lt⟩
    · rw [hb3.block _ (by omega), ← hs1]; exact hat
    · rw [← hs2]; exact hI
  obtain ⟨w3, hw3⟩ : ∃ y, w2.alloc (.mapIter (some mb) c #[] c) = y := ⟨_, rfl⟩
  rw [hw3] at hF ⊢
  have HP := Lib.hid hLM
  have HK := Lib.hid hm.keys
  clear hLM hI hrun hc2 hB2 hm2 hm1 hE2 hat hw2 hw1 hb1 hb2 hb3 hs1 hs2 hE hmk hw3 hm hc hb
  go_loopg [4, 5] M.length (fun g kv vv wx => ∃ (done todo : List (Int × Bool)), g = todo.length ∧ Fill W mb W.heap.size (W.heap.size + 1) (W.heap.size + 2) M done todo [] wx)
  case atStart => exact ⟨[], M, rfl, hF⟩
  case round =>
    clear hF
    obtain ⟨done, todo, rfl, hF⟩ := hrel
    obtain ⟨es, c, seen, hI⟩ := hF.it
    rcases next_run hI 0 with ⟨rfl, hnx⟩ | ⟨k, v, todo', w1, seen', hp, hnx, hI1, hg, hs, hen⟩
    · go_wp2
      refine bodyPost_ret (v := .pointer (some ⟨W.heap.size + 1, 0, none⟩)) (by simp [results, Tryz.results100, go_sem]) rfl ⟨W.heap.size + 1, W.heap.size, rfl, hF.bel, by omega, Nat.le_refl _, by omega, hF.flow, ?_⟩
      have hpd : done.Perm M := by have := hF.parts; rwa [List.append_nil] at this
      have hkd : keysN done := (get_perm hF.keys hpd.symm).1
      have h1 : L.Perm (orAll [] done) := (HP.out.trans hpd.symm).trans (orAll_nil hkd).symm
      obtain ⟨es', c', M', g1, g2, g3, g4⟩ := hF.new.ex
      exact ⟨HK.out, es', c', M', g1, g2, h1.trans g3, g4⟩
    · have hnl := hF.new.lt
      have hnew : HasMap w1 W.heap.size (orAll [] done) := hF.new.keep (hg.block _ hnl (by intro e; injection e with e; omega))
      have hcell : w1.cell? ⟨W.heap.size + 1, 0, none⟩ = some (.map (some W.heap.size)) := (World.cell?_of_block (hg.block (W.heap.size + 1) (Array.getElem?_eq_some_iff.1 hF.flow).1 (by intro e; injection e with e; omega))).trans hF.cell
      obtain ⟨o', hup, hu⟩ := run_update hnew k v
      have hgn : get (orAll [] done) k = none := by
        rw [get_orAll (keys_left hF.keys hF.parts), hF.fresh hp]; rfl
      have hF2 := hF.step hp hI1 hg hs hu (by rw [hgn]; simp)
      clear hI hnew hu hg hs hnl hgn
      go_wp2
      go_roundg todo'.length
      case measure => rw [hp.length_eq]; simp
      case rel => exact ⟨done ++ [(k, v)], todo', rfl, hF2⟩
end Go.Proofs.YtbobnbndbgpanaaGreat.W
