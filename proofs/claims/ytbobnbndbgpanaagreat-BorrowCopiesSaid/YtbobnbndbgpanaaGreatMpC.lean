/- Maps of numbers to bools in the world: gone over, in whatever order. -/
import Derived.Test.YtbobnbndbgpanaaGreatMpB
namespace Go.Proofs.YtbobnbndbgpanaaGreat.W
open Go Go.RowKit Go.Proofs Go.Proofs.YtbobnbndbgpanaaGreat.Sx
open Go.ChangeMaps (setBlock)
set_option linter.unusedVariables false
set_option linter.unusedSimpArgs false
/-- An iterator, and what is still to come. -/
structure Iter (W : World) (r mb : Nat) (es : Array MapEntry) (c : Nat) (seen : Array Nat) (todo : List (Int × Bool)) : Prop where
  it : W.heap[r]? = some (.mapIter (some mb) c seen c)
  at' : W.heap[mb]? = some (.map es c)
  left : todo.map vE = ents (leftOf es seen).toList
  nd : (es.toList.map fun e => e.born).Nodup
  lt : ∀ e ∈ es.toList, e.born < c
theorem range_start {W : World} {mb : Nat} {L : List (Int × Bool)} (h : HasMap W mb L) : ∃ es c M, (Instr.range 52 (.map (some mb))).run Tryz.prog W = .ok (.pointer (some ⟨W.heap.size, 0, none⟩)) (W.alloc (.mapIter (some mb) c #[] c)) ∧
    Iter (W.alloc (.mapIter (some mb) c #[] c)) W.heap.size mb es c #[] M ∧ L.Perm M := by
  obtain ⟨es, c, M, g1, g2, g3, g4, g5⟩ := h.ex
  refine ⟨es, c, M, run_range_map W 52 3 4 mb es c und52 g1, ⟨heap_alloc_new W _, ?_, ?_, g4, g5⟩, g3⟩
  · have := (Array.getElem?_eq_some_iff.1 g1).1
    exact (((Below.refl W.heap.size W).alloc (Nat.le_refl _) _).block mb this).trans g1
  · rw [g2]
    unfold leftOf
    simp
    congr 1
    exact (List.filter_eq_self.2 (fun _ _ => rfl)).symm
theorem born_filter : ∀ {l : List MapEntry} {e : MapEntry}, (l.map fun e => e.born).Nodup → e ∈ l → ∃ a b, l = a ++ e :: b ∧ l.filter (fun x => !(x.born == e.born)) = a ++ b
  | [], e, _, h => by simp at h
  | x :: l, e, hn, h => by
    simp only [List.map_cons, List.nodup_cons] at hn
    rcases List.mem_cons.1 h with rfl | h
    · refine ⟨[], l, rfl, ?_⟩
      simp only [List.filter_cons, BEq.rfl, Bool.not_true, Bool.false_eq_true, if_false, List.nil_append]
      rw [List.filter_eq_self]
      intro y hy
      have : y.born ≠ e.born := fun q => hn.1 (List.mem_map.2 ⟨y, hy, q⟩)
      simp [this]
    · obtain ⟨a, b, h1, h2⟩ := born_filter hn.2 h
      have : x.born ≠ e.born := fun q => hn.1 (List.mem_map.2 ⟨e, h, q.symm⟩)
      refine ⟨x :: a, b, by rw [h1]; rfl, ?_⟩
      simp [List.filter_cons, this, h2]
theorem left_push (es : Array MapEntry) (seen : Array Nat) (e : MapEntry) : (leftOf es (seen.push e.born)).toList = (leftOf es seen).toList.filter (fun x => !(x.born == e.born)) := by
  unfold leftOf
  simp only [Array.toList_filter, List.filter_filter]
  apply List.filter_congr
  intro x _
  simp only [Array.contains_push]
  cases seen.contains x.born <;> simp
theorem next_run {W : World} {r mb : Nat} {es : Array MapEntry} {c : Nat} {seen : Array Nat} {todo : List (Int × Bool)} (h : Iter W r mb es c seen todo) (ty : TypeId) :
    (todo = [] ∧ (Instr.next (.pointer (some ⟨r, 0, none⟩)) false ty).run Tryz.prog W = .ok (.tuple #[.bool false]) W) ∨
    ∃ k v todo' W' seen', todo.Perm ((k, v) :: todo') ∧ (Instr.next (.pointer (some ⟨r, 0, none⟩)) false ty).run Tryz.prog W = .ok (.tuple #[.bool true, .int .i64 k, .bool v]) W' ∧ Iter W' r mb es c seen' todo' ∧ W.grownBy W' (some r) ∧ W'.heap.size = W.heap.size ∧
      (Instr.entry (.pointer (some ⟨r, 0, none⟩))).run Tryz.prog W' = .ok (.tuple #[.int .i64 k, .bool v]) W' := by
  have hne : r ≠ mb := by
    intro e
    have h1 := h.it
    rw [e, h.at'] at h1
    cases h1
  rcases run_next_at (P := Tryz.prog) W ty r mb c c seen es c h.it h.at' h.lt (Nat.le_refl _) with ⟨q1, q2⟩ | ⟨e, he, w1, hw1, q2⟩
  · left
    refine ⟨?_, q2⟩
    have hl : (leftOf es seen).toList = [] := List.eq_nil_of_length_eq_zero (by simpa using q1)
    have := h.left
    rw [hl] at this
    exact List.map_eq_nil_iff.1 this
  · right
    have hnl : ((leftOf es seen).toList.map fun e => e.born).Nodup := by
      unfold leftOf
      rw [Array.toList_filter]
      exact h.nd.sublist (List.Sublist.map _ List.filter_sublist)
    have hes : e ∈ es.toList := by
      unfold leftOf at he
      rw [Array.toList_filter] at he
      exact (List.mem_filter.1 he).1
    obtain ⟨a, b, h1, h2⟩ := born_filter hnl he
    have hL := h.left
    rw [h1] at hL
    obtain ⟨ta, tb, rfl, ha, hb⟩ : ∃ ta tb, todo = ta ++ tb ∧ ta.map vE = ents a ∧ tb.map vE = ents (e :: b) := by
      have : todo.map vE = ents a ++ ents (e :: b) := by rw [hL]; simp [ents]
      exact List.map_eq_append_iff.1 this |>.imp fun ta => fun ⟨tb, q1, q2, q3⟩ => ⟨tb, q1, q2, q3⟩
    cases tb with
    | nil => simp [ents] at hb
    | cons p tb =>
      obtain ⟨k, v⟩ := p
      have hb' : vE (k, v) = (e.key, e.val) ∧ tb.map vE = ents b := by simpa [ents] using hb
      have hk : e.key = .int .i64 k := by have := congrArg Prod.fst hb'.1; exact this.symm
      have hv : e.val = .bool v := by have := congrArg Prod.snd hb'.1; exact this.symm
      rw [hk, hv] at q2
      have g1 : w1.heap = W.heap := by rcases hw1 with rfl | rfl <;> rfl
      have g2 : W.grownBy w1 (some r) := by rcases hw1 with rfl | rfl <;> exact ⟨rfl, rfl, rfl, Nat.le_refl _, fun _ _ _ => rfl⟩
      have g3 := setBlock_grown w1 r (.mapIter (some mb) c (seen.push e.born) c)
      have hat : (setBlock w1 r (.mapIter (some mb) c (seen.push e.born) c)).heap[mb]? = some (.map es c) := by
        have : mb < w1.heap.size := by rw [g1]; exact (Array.getElem?_eq_some_iff.1 h.at').1
        rw [g3.block mb this (by intro q; injection q with q; exact hne q.symm), g1]; exact h.at'
      have hit : (setBlock w1 r (.mapIter (some mb) c (seen.push e.born) c)).heap[r]? = some (.mapIter (some mb) c (seen.push e.born) c) := setBlock_at (o1 := .mapIter (some mb) c seen c) (by rw [g1]; exact h.it) _
      refine ⟨k, v, ta ++ tb, _, seen.push e.born, List.perm_middle, q2, ⟨hit, hat, ?_, h.nd, h.lt⟩, ⟨g3.os.trans g2.os, g3.tape.trans g2.tape, g3.output.trans g2.output, Nat.le_trans g2.size g3.size, fun i hi hn => (g3.block i (Nat.lt_of_lt_of_le hi g2.size) hn).trans (g2.block i hi hn)⟩, ?_, ?_⟩
      · rw [left_push, h2, List.map_append, ha, hb'.2]; simp [ents]
      · simp [setBlock, g1]
      · have := run_entry_at (P := Tryz.prog) _ r mb c seen es c e hit hat hes h.nd
        rw [hk, hv] at this
        exact this
end Go.Proofs.YtbobnbndbgpanaaGreat.W
