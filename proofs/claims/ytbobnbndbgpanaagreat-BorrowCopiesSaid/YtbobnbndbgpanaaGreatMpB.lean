/- Maps of numbers to bools in the world: looked into, laid, gone over. -/
import Derived.Test.YtbobnbndbgpanaaGreatMpA
import Derived.Below
import Derived.Laws.AppendOwn
namespace Go.Proofs.YtbobnbndbgpanaaGreat.W
open Go Go.Proofs.YtbobnbndbgpanaaGreat.Sx
open Go.ChangeMaps (setBlock)
set_option linter.unusedVariables false
set_option linter.unusedSimpArgs false
def vE (p : Int × Bool) : Value × Value := (.int .i64 p.1, .bool p.2)
def ents (es : List MapEntry) : List (Value × Value) := es.map fun e => (e.key, e.val)
structure HasMap (W : World) (mb : Nat) (L : List (Int × Bool)) : Prop where
  keys : keysN L
  ex : ∃ es c M, W.heap[mb]? = some (.map es c) ∧ M.map vE = ents es.toList ∧ L.Perm M ∧ (es.toList.map fun e => e.born).Nodup ∧ ∀ e ∈ es.toList, e.born < c
theorem und52 : Tryz.prog.underlying 52 = some (.map 3 4) := by kernel_rfl
theorem und3 : Tryz.prog.underlying 3 = some (.int .i64) := by kernel_rfl
theorem isKeyI (k : Int) : MapKept.IsKey (.int .i64) (.int .i64 k) := by
  have := isKey (η := {}) (φ := fun _ => none) (d := .int .i64) (x := .int .i64 (.lit k)) (x' := .int .i64 k) rfl (VR.int .i64 (.lit k))
  exact this
theorem same_int (k j : Int) : Instr.sameNow (.int .i64) (.int .i64 k) (.int .i64 j) = some (decide (k = j)) := by
  obtain ⟨r, h1, h2⟩ := MapKept.sameNow_of_keys (isKeyI k) (isKeyI j)
  rw [h1]
  congr 1
  rw [Bool.eq_iff_iff, h2]
  simp
/-- A key that is looked for, in the list and in the world. -/
theorem find_list (k : Int) (v : Bool) (q : Nat) : ∀ (es : List MapEntry) (M : List (Int × Bool)) (i : Nat), M.map vE = ents es →
    (get M k = none ∧ Instr.findNow (.int .i64) (.int .i64 k) es i = some none ∧ (setL k v M).map vE = ents (es ++ [⟨.int .i64 k, .bool v, q⟩])) ∨
    ∃ j e w, Instr.findNow (.int .i64) (.int .i64 k) es i = some (some (i + j, .bool w)) ∧ get M k = some w ∧ es[j]? = some e ∧ e.key = .int .i64 k ∧ (setL k v M).map vE = ents (es.modify j fun e => { e with key := .int .i64 k, val := .bool v })
  | [], [], i, h => .inl ⟨rfl, rfl, rfl⟩
  | [], _ :: _, i, h => by simp [ents] at h
  | _ :: _, [], i, h => by simp [ents] at h
  | e :: es, p :: M, i, h => by
    have h0 : vE p = (e.key, e.val) ∧ M.map vE = ents es := by simpa [ents] using h
    obtain ⟨h1, h2⟩ := h0
    have hk : e.key = .int .i64 p.1 := by have := congrArg Prod.fst h1; exact this.symm
    have hv : e.val = .bool p.2 := by have := congrArg Prod.snd h1; exact this.symm
    have hs := same_int k p.1
    by_cases c : p.1 = k
    · subst c
      refine .inr ⟨0, e, p.2, ?_, by simp [get], rfl, hk, ?_⟩
      · unfold Instr.findNow
        rw [hk, hs, hv]
        simp
      · simp [setL, ents, vE] at h2 ⊢
        exact h2
    · have c' : k ≠ p.1 := fun e => c e.symm
      rw [decide_eq_false c'] at hs
      rcases find_list k v q es M (i + 1) h2 with ⟨a1, a2, a3⟩ | ⟨j, e', w, a1, a2, a3, a4, a5⟩
      · refine .inl ⟨by simp [get, c, a1], ?_, ?_⟩
        · unfold Instr.findNow
          rw [hk, hs]
          exact a2
        · simp only [setL, if_neg c, List.map_cons, a3, h1]
          simp [ents]
      · refine .inr ⟨j + 1, e', w, ?_, by simp [get, c, a2], by simpa using a3, a4, ?_⟩
        · unfold Instr.findNow
          rw [hk, hs]
          simp only
          rw [a1]
          congr 3
          omega
        · simp only [setL, if_neg c, List.map_cons, a5, h1]
          simp [ents]
theorem setBlock_grown (W : World) (b : Nat) (o : Obj) : W.grownBy (setBlock W b o) (some b) := by
  refine ⟨rfl, rfl, rfl, by simp [setBlock], fun k hk hne => ?_⟩
  have : b ≠ k := fun e => hne (by rw [e])
  simp [setBlock, this]
theorem setBlock_at {W : World} {b : Nat} {o1 : Obj} (h : W.heap[b]? = some o1) (o : Obj) : (setBlock W b o).heap[b]? = some o := by
  have := (Array.getElem?_eq_some_iff.1 h).1
  simp [setBlock, this]
theorem setL_perm {k : Int} {v : Bool} {L M : List (Int × Bool)} (hL : keysN L) (h : L.Perm M) : (setL k v L).Perm (setL k v M) := by
  obtain ⟨h1, h2⟩ := get_perm hL h
  exact perm_get (keys_setL _ _ hL) (keys_setL _ _ h1) fun j => by rw [get_setL, get_setL, h2]
theorem run_update {W : World} {mb : Nat} {L : List (Int × Bool)} (h : HasMap W mb L) (k : Int) (v : Bool) :
    ∃ o, (Instr.mapUpdate 52 (.map (some mb)) (.int .i64 k) (.bool v)).run Tryz.prog W = .ok () (setBlock W mb o) ∧ HasMap (setBlock W mb o) mb (setL k v L) := by
  obtain ⟨es, c, M, g1, g2, g3, g4, g5⟩ := h.ex
  have hck : ∀ e, (Instr.checkKey e 10000 3 (.int .i64 k)).run Tryz.prog W = .ok () W := fun e => by
    unfold Instr.checkKey
    simp [run_underlying und3]
  rcases find_list k v c es.toList M 0 g2 with ⟨a1, a2, a3⟩ | ⟨j, e', w, a1, a2, a3, a4, a5⟩
  · have hf := findKey_some (P := Tryz.prog) und3 a2 W
    refine ⟨.map (es.push ⟨.int .i64 k, .bool v, c⟩) (c + 1), ?_, ⟨keys_setL k v h.keys, _, _, setL k v M, setBlock_at g1 _, ?_, setL_perm h.keys g3, ?_, ?_⟩⟩
    · simp [Instr.mapUpdate, run_underlying und52, run_getMap g1, hck, hf, MapKept.run_setObj_map _ g1, setBlock]
    · rw [Array.toList_push]; exact a3
    · rw [Array.toList_push, List.map_append, List.nodup_append]
      refine ⟨g4, by simp, ?_⟩
      intro x hx y hy
      simp at hy
      subst hy
      obtain ⟨e, he, rfl⟩ := List.mem_map.1 hx
      have := g5 e he
      omega
    · intro e he
      rw [Array.toList_push, List.mem_append] at he
      rcases he with he | he
      · have := g5 e he; omega
      · simp at he; subst he; exact Nat.lt_succ_self c
  · have hf := findKey_some (P := Tryz.prog) und3 a1 W
    have hj : es[j]? = some e' := by simpa using a3
    have hsame : Instr.sameBits 10000 e'.key (.int .i64 k) = true := by
      rw [a4]; simp [Instr.sameBits]
    refine ⟨.map (es.modify j fun e => { e with key := .int .i64 k, val := .bool v }) c, ?_, ⟨keys_setL k v h.keys, _, _, setL k v M, setBlock_at g1 _, ?_, setL_perm h.keys g3, ?_, ?_⟩⟩
    · simp [Instr.mapUpdate, run_underlying und52, run_getMap g1, hck, hf, hj, Instr.keyThatStays, hsame, MapKept.run_setObj_map _ g1, setBlock]
    · rw [Array.toList_modify]; exact a5
    · rw [Array.toList_modify]
      have : ((es.toList.modify j fun e => { e with key := .int .i64 k, val := .bool v }).map fun e => e.born) = es.toList.map fun e => e.born := by
        apply List.ext_getElem?
        intro i
        simp only [List.getElem?_map, List.getElem?_modify]
        cases es.toList[i]? <;> simp
        split <;> rfl
      rw [this]; exact g4
    · intro e he
      rw [Array.toList_modify] at he
      obtain ⟨i, hi⟩ := List.getElem?_of_mem he
      rw [List.getElem?_modify] at hi
      cases h2 : es.toList[i]? with
      | none => rw [h2] at hi; simp at hi
      | some e0 =>
        rw [h2] at hi
        have := g5 e0 (List.mem_of_getElem? h2)
        simp at hi
        split at hi <;> (subst hi; exact this)
theorem run_look {W : World} {mb : Nat} {L : List (Int × Bool)} (h : HasMap W mb L) (k : Int) :
    (Instr.lookup 52 (.map (some mb)) (.int .i64 k) false).run Tryz.prog W = .ok (.bool ((get L k).getD false)) W := by
  obtain ⟨es, c, M, g1, g2, g3, g4, g5⟩ := h.ex
  have hck : ∀ e, (Instr.checkKey e 10000 3 (.int .i64 k)).run Tryz.prog W = .ok () W := fun e => by
    unfold Instr.checkKey
    simp [run_underlying und3]
  have hz : (zeroValue 4).run Tryz.prog W = .ok (.bool false) W := by kernel_rfl
  have hg := (get_perm h.keys g3).2 k
  rcases find_list k false c es.toList M 0 g2 with ⟨a1, a2, a3⟩ | ⟨j, e', w, a1, a2, a3, a4, a5⟩
  · have hf := findKey_some (P := Tryz.prog) und3 a2 W
    have hr := run_lookup (P := Tryz.prog) false und52 (.inr ⟨mb, c, rfl, g1⟩) hck hf hz
    rw [hr, hg, a1]; rfl
  · have hf := findKey_some (P := Tryz.prog) und3 a1 W
    have hr := run_lookup (P := Tryz.prog) false und52 (.inr ⟨mb, c, rfl, g1⟩) hck hf hz
    rw [hr, hg, a2]; rfl
end Go.Proofs.YtbobnbndbgpanaaGreat.W
