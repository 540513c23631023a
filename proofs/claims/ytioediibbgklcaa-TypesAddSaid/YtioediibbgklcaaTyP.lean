/- TypesEnums: the enum that the law makes, and what is counted of it. -/
import Derived.Test.YtioediibbgklcaaTyO
namespace Go.Proofs.Ytioediibbgklcaa.W
open Go Go.RowKit Go.Proofs
set_option linter.unusedVariables false
set_option linter.unusedSimpArgs false
abbrev nil0 : ByteArray := ⟨#[]⟩
def tyB : Bool → Ty
  | false => .mk 6 nil0 0 []
  | true => .mk 11 nil0 0 [.mk 2 nil0 0 []]
/-- A type's four cells: a box's own type lies in block g. -/
def quad : Option Nat → List Value
  | none => [.int .i64 6, .string nil0, .int .i64 0, .slice none 0 0]
  | some g => [.int .i64 11, .string nil0, .int .i64 0, .slice (some ⟨g, 0, none⟩) 1 1]
def inner : Array Value := #[.int .i64 2, .string nil0, .int .i64 0, .slice none 0 0]
/-- A row of types of one kind. -/
structure Vr (B : Nat) (w : World) (v : Value) (n : Nat) (od : Bool) (gs : List (Option Nat)) : Prop where
  own : w.ownsRow B 26 4 v n (gs.flatMap quad)
  len : gs.length = n
  kind : ∀ x ∈ gs, x.isSome = od
  box : ∀ g, some g ∈ gs → w.heap[g]? = some (.cells inner 26 (0, 0))
  apart : ∀ g, some g ∈ gs → v.ownBlock ≠ some g
/-- Rows of types stay. -/
def Same26 (w w' : World) : Prop := ∀ (g : Nat) (cur : Array Value) (p : Nat × Nat), w.heap[g]? = some (Obj.cells cur 26 p) → w'.heap[g]? = w.heap[g]?
theorem own_keep {W W' : World} {B e sz n : Nat} {v : Value} {xs : List Value} (h : W.ownsRow B e sz v n xs) (hb : ∀ g cur p, v.ownBlock = some g → W.heap[g]? = some (Obj.cells cur e p) → W'.heap[g]? = W.heap[g]?) : W'.ownsRow B e sz v n xs := by
  obtain ⟨h1, h2⟩ := h
  refine ⟨h1, ?_⟩
  rcases h2 with h2 | ⟨g, cap, cur, a1, a2, a3, a4⟩
  · exact .inl h2
  · exact .inr ⟨g, cap, cur, a1, a2, by rw [hb g _ _ (by rw [a1]; rfl) a3]; exact a3, a4⟩
theorem Vr.keep {B : Nat} {w w' : World} {v : Value} {n : Nat} {od : Bool} {gs : List (Option Nat)} (h : Vr B w v n od gs) (hs : Same26 w w') : Vr B w' v n od gs :=
  ⟨own_keep h.own (fun g cur p _ hg => hs g cur p hg), h.len, h.kind, fun g hg => (hs g _ _ (h.box g hg)).trans (h.box g hg), h.apart⟩
theorem same26_below {w w' : World} (h : Below w.heap.size w w') : Same26 w w' := fun g cur p hg => h.block g (Array.getElem?_eq_some_iff.1 hg).1
theorem same26_grown {w w' : World} {v : Value} {B e sz n : Nat} {xs : List Value} (h : w.ownsRow B e sz v n xs) (he : e ≠ 26) (hg : w.grownBy w' v.ownBlock) : Same26 w w' := fun g cur p hp => hg.block g (Array.getElem?_eq_some_iff.1 hp).1 (by
  intro hv
  rcases h.2 with ⟨rfl, _⟩ | ⟨g', cap, cur', rfl, a2, a3, _⟩
  · cases hv
  · simp [Value.ownBlock] at hv
    subst hv
    rw [hp] at a3
    injection a3 with a3
    injection a3 with _ a3
    exact he a3.symm)
theorem flatMap_get : ∀ (gs : List (Option Nat)) (k j : Nat) (x : Option Nat), gs[k]? = some x → j < 4 → (gs.flatMap quad)[k * 4 + j]? = (quad x)[j]?
  | [], k, j, x, h, _ => by simp at h
  | y :: gs, 0, j, x, h, hj => by
    simp at h; subst h
    rw [List.flatMap_cons, Nat.zero_mul, Nat.zero_add, List.getElem?_append_left (by cases y <;> simpa [quad] using hj)]
  | y :: gs, k + 1, j, x, h, hj => by
    have ih := flatMap_get gs k j x (by simpa using h) hj
    have e : (quad y).length = 4 := by cases y <;> rfl
    rw [List.flatMap_cons, List.getElem?_append_right (by rw [e]; omega), e, show (k + 1) * 4 + j - 4 = k * 4 + j by omega, ih]
/-- What such a row's types are. -/
theorem Vr.types {B : Nat} {w : World} {v : Value} {n : Nat} {od : Bool} {gs : List (Option Nat)} (h : Vr B w v n od gs) : ∃ a c, v = .slice a n c ∧ TysAt w a (List.replicate n (tyB od)) := by
  rcases own_form2 h.own with ⟨rfl, rfl⟩ | ⟨g, cap, rfl, _, _, _⟩
  · exact ⟨none, 0, rfl, fun i t h => by simp at h⟩
  · refine ⟨_, _, rfl, fun i t hi => ?_⟩
    have hlt : i < n := by have := (List.getElem?_eq_some_iff.1 hi).1; simpa using this
    have ht : tyB od = t := by rw [List.getElem?_replicate] at hi; simpa [hlt] using hi
    subst ht
    obtain ⟨x, hx⟩ : ∃ x, gs[i]? = some x := ⟨_, List.getElem?_eq_getElem (by rw [h.len]; exact hlt)⟩
    have hm := List.mem_of_getElem? hx
    have hc : ∀ j u, j < 4 → (quad x)[j]? = some u → w.cell? ⟨g, 0 + (i * 4 + j), none⟩ = some u := fun j u hj hu => by
      have := h.own.cells (g := g) rfl (i * 4 + j) u ((flatMap_get gs i j x hx hj).trans hu)
      rwa [Addr.add_lit] at this
    have hk := h.kind x hm
    cases x with
    | none =>
      have hk : od = false := hk.symm
      subst hk
      exact ⟨g, 0, _, _, _, _, rfl, by simpa using hc 0 _ (by omega) rfl, by simpa using hc 1 _ (by omega) rfl, by simpa using hc 2 _ (by omega) rfl, by simpa using hc 3 _ (by omega) rfl, .mk 6 nil0 0 none 0 [] (by simp) 0 0 (fun _ _ => .bool false) (by simp) (by simp) (by simp)⟩
    | some gb =>
      have hk : od = true := hk.symm
      subst hk
      have hb := h.box gb hm
      have hcell : ∀ j, w.cell? ⟨gb, j, none⟩ = inner[j]? := fun j => cell_of_row _ _ _ _ 26 (0, 0) hb
      refine ⟨g, 0, _, _, _, _, rfl, by simpa using hc 0 _ (by omega) rfl, by simpa using hc 1 _ (by omega) rfl, by simpa using hc 2 _ (by omega) rfl, by simpa using hc 3 _ (by omega) rfl, .mk 11 nil0 0 (some ⟨gb, 0, none⟩) 1 [.mk 2 nil0 0 []] (by simp) gb 0 (fun _ j => (inner[j]?).getD (.bool false)) (fun _ => rfl) (fun i' j hi hj => ?_) (fun i' t hi => ?_)⟩
      · have hi0 : i' = 0 := by simp at hi; exact hi
        subst hi0
        rw [show 0 + 0 * 4 + j = j by omega, hcell]
        match j, hj with
        | 0, _ => rfl
        | 1, _ => rfl
        | 2, _ => rfl
        | 3, _ => rfl
      · match i', hi with
        | 0, hi =>
          simp at hi; subst hi
          exact .mk 2 nil0 0 none 0 [] (by simp) 0 0 (fun _ _ => .bool false) (by simp) (by simp) (by simp)
        | i' + 1, hi => simp at hi
theorem quad_one : ∀ (x : Option Nat), ∀ u ∈ quad x, u.oneCell' = true := by
  intro x u hu
  cases x <;> simp only [quad, List.mem_cons, List.not_mem_nil, or_false] at hu <;> rcases hu with rfl | rfl | rfl | rfl <;> rfl
theorem quad_len (x : Option Nat) : (quad x).length = 4 := by cases x <;> rfl
theorem Vr.more {B : Nat} {w w' : World} {v v' : Value} {n : Nat} {od : Bool} {gs : List (Option Nat)} (h : Vr B w v n od gs) (x : Option Nat) (hx : x.isSome = od) (hxb : ∀ g, x = some g → w.heap[g]? = some (.cells inner 26 (0, 0)) ∧ v.ownBlock ≠ some g)
    (hown : w'.ownsRow B 26 4 v' (n + 1) (gs.flatMap quad ++ quad x)) (hg : w.grownBy w' v.ownBlock) (hG : GrewFrom w v v' n 1) : Vr B w' v' (n + 1) od (gs ++ [x]) := by
  have hbx : ∀ g, some g ∈ gs ++ [x] → w.heap[g]? = some (.cells inner 26 (0, 0)) ∧ v.ownBlock ≠ some g := by
    intro g hm
    rcases List.mem_append.1 hm with hm | hm
    · exact ⟨h.box g hm, h.apart g hm⟩
    · simp only [List.mem_singleton] at hm
      exact hxb g hm.symm
  refine ⟨by rw [List.flatMap_append]; simpa using hown, by simp [h.len], ?_, ?_, ?_⟩
  · intro y hy
    rcases List.mem_append.1 hy with hy | hy
    · exact h.kind y hy
    · simp only [List.mem_singleton] at hy; rw [hy]; exact hx
  · intro g hm
    obtain ⟨h1, h2⟩ := hbx g hm
    exact (hg.block g (Array.getElem?_eq_some_iff.1 h1).1 (fun e => h2 e.symm)).trans h1
  · intro g hm e
    obtain ⟨h1, h2⟩ := hbx g hm
    have hl := (Array.getElem?_eq_some_iff.1 h1).1
    rcases hG.1 g e with h3 | h3
    · exact h2 h3
    · omega
theorem lit_cells (w : World) (e : TypeId) (A : List Value) : ∀ j u, A[j]? = some u → (w.alloc (.cells A.toArray e)).cell? ((⟨w.heap.size, 0, none⟩ : Addr).add j) = some u := by
  intro j u h
  rw [Addr.add_lit, cell_of_row _ _ _ _ e (0, 0) (heap_alloc_new w _)]
  simpa using h
theorem and7 (x : Int) : ∃ n : Nat, n ≤ 7 ∧ bits .and .i64 x 7 = n := by
  have e : bits .and .i64 x 7 = IntKind.i64.wrap (((BitVec.ofInt 64 x &&& BitVec.ofInt 64 7 : BitVec 64).toNat : Nat) : Int) := rfl
  have h : (BitVec.ofInt 64 x &&& BitVec.ofInt 64 7 : BitVec 64).toNat ≤ 7 := by
    rw [BitVec.toNat_and]
    exact Nat.and_le_right
  refine ⟨_, h, ?_⟩
  rw [e]
  generalize (BitVec.ofInt 64 x &&& BitVec.ofInt 64 7 : BitVec 64).toNat = m at h
  rw [← wr64]
  simp [wrap64]
  omega
def zero4 : Array Value := #[.int .i64 0, .string nil0, .int .i64 0, .slice none 0 0]
theorem row_there4 {w : World} {b : Nat} {A : Array Value} {e : TypeId} (h : w.heap[b]? = some (.cells A e (0, 0))) (hs : A.size = 4) : (∀ j, j < 4 → (w.cell? ⟨b, 0 + j, none⟩).isSome = true) ∧ ∀ j, j < 4 → w.frozen? ⟨b, 0 + j, none⟩ = false := by
  refine ⟨fun j hj => ?_, fun j hj => frozen_of_row _ _ _ _ e h⟩
  rw [cell_of_row _ _ _ _ e (0, 0) h]
  simp [hs, hj]
theorem zero_there4 (X : World) : (∀ j, j < 4 → ((X.alloc (.cells zero4 26)).cell? ⟨X.heap.size, 0 + j, none⟩).isSome = true) ∧ ∀ j, j < 4 → (X.alloc (.cells zero4 26)).frozen? ⟨X.heap.size, 0 + j, none⟩ = false := row_there4 (heap_alloc_new X _) rfl
end Go.Proofs.Ytioediibbgklcaa.W
