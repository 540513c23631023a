/- HeapPlays: the state of both heaps, and of what was told. -/
import Derived.Test.YtlpdemdakcjjjaaHpZ0
namespace Go.Proofs.Ytlpdemdakcjjjaa.W
open Go Go.RowKit Go.Proofs Go.Proofs.Ytlpdemdakcjjjaa.Sx
set_option linter.unusedVariables false
set_option linter.unusedSimpArgs false
def intL (ts : List Int) : List Value := ts.map fun x => .int .i64 x
/-- Where all lies. -/
structure Pl (B0 B1 hb : Nat) (bs : Nat → Nat) (rb : Nat) : Prop where
  b01 : B0 ≤ B1
  hH : hb < B1
  hB : ∀ c, c < 4 → bs c < B1
  hR : rb < B1
  nB : ∀ c, c < 4 → B0 ≤ bs c
  nR : B0 ≤ rb
  neH : rb ≠ hb
  neB : ∀ c, c < 4 → rb ≠ bs c
structure St (W0 : World) (B1 hb : Nat) (bs : Nat → Nat) (rb ab : Nat) (A : Array Value) (W : World) (u : Nat → Nat → Bool) (L : List (Nat × Nat)) (tv : Value) (ts : List Int) : Prop where
  hp : HpAt W0.heap.size W hb bs u
  rows : RowsAt B1 W rb L
  told : W.ownsRow B1 3 1 tv ts.length (intL ts)
  act : A = #[] ∨ B1 ≤ ab ∧ W.heap[ab]? = some (.cells A 46 (0, 0))
  bel : Below W0.heap.size W0 W
  sz : B1 ≤ W.heap.size
section
variable {W0 : World} {B1 hb : Nat} {bs : Nat → Nat} {rb ab : Nat} {A : Array Value} {W W' : World} {u u' : Nat → Nat → Bool} {L L' : List (Nat × Nat)} {tv : Value} {ts : List Int}
theorem St.below (h : St W0 B1 hb bs rb ab A W u L tv ts) (hb' : Below W.heap.size W W') : St W0 B1 hb bs rb ab A W' u L tv ts :=
  ⟨h.hp.below hb', h.rows.below hb', own_below h.told hb', h.act.imp id fun q => ⟨q.1, (hb'.block ab (Array.getElem?_eq_some_iff.1 q.2).1).trans q.2⟩, h.bel.trans (hb'.mono h.bel.size), Nat.le_trans h.sz hb'.size⟩
theorem rows_keep {B rb : Nat} {L : List (Nat × Nat)} (h : RowsAt B W rb L) (h1 : W'.heap[rb]? = W.heap[rb]?) (h2 : ∀ g cur, B ≤ g → W.heap[g]? = some (.cells cur 61 (0, 0)) → W'.heap[g]? = W.heap[g]?) : RowsAt B W' rb L := by
  obtain ⟨⟨v, hh, ho⟩, hz⟩ := h
  refine ⟨⟨v, (World.cell?_of_block (w := W) h1).trans hh, ho.1, ?_⟩, (World.frozen?_of_block (w := W) h1).trans hz⟩
  rcases ho.2 with q | ⟨g, cap, cur, rfl, q1, q2, q3⟩
  · exact .inl q
  · exact .inr ⟨g, cap, cur, rfl, q1, (h2 g cur q1 q2).trans q2, q3⟩
theorem told_keep {B n : Nat} {v : Value} {xs : List Value} (h : W.ownsRow B 3 1 v n xs) (h2 : ∀ g cur, B ≤ g → W.heap[g]? = some (.cells cur 3 (0, 0)) → W'.heap[g]? = W.heap[g]?) : W'.ownsRow B 3 1 v n xs := by
  refine ⟨h.1, ?_⟩
  rcases h.2 with q | ⟨g, cap, cur, rfl, q1, q2, q3⟩
  · exact .inl q
  · exact .inr ⟨g, cap, cur, rfl, q1, (h2 g cur q1 q2).trans q2, q3⟩
theorem heap_lt {g : Nat} {o : Obj} (h : W.heap[g]? = some o) : g < W.heap.size := (Array.getElem?_eq_some_iff.1 h).1
/-- A call of the heap. -/
theorem St.heap (h : St W0 B1 hb bs rb ab A W u L tv ts) (hP : Pl W0.heap.size B1 hb bs rb) (hI : HpAt W0.heap.size W' hb bs u') (hF : ∃ c, c < 4 ∧ Fr (bs c) W W') : St W0 B1 hb bs rb ab A W' u' L tv ts := by
  obtain ⟨c, hc, hF⟩ := hF
  have l := hP.hB c hc
  refine ⟨hI, rows_keep h.rows ?_ ?_, told_keep h.told ?_, h.act.imp id fun q => ⟨q.1, ?_⟩, h.bel.trans (hF.below (hP.nB c hc) h.bel.size), Nat.le_trans h.sz hF.size⟩
  · obtain ⟨v, hh, _⟩ := h.rows.head
    exact hF.block rb (cell_lt hh) (hP.neB c hc)
  · intro g cur q1 q2
    exact hF.block g (heap_lt q2) (by omega)
  · intro g cur q1 q2
    exact hF.block g (heap_lt q2) (by omega)
  · exact (hF.block ab (heap_lt q.2) (by have := q.1; omega)).trans q.2
/-- A call of the document's heap. -/
theorem St.ref (h : St W0 B1 hb bs rb ab A W u L tv ts) (hP : Pl W0.heap.size B1 hb bs rb) (hR : RowsAt B1 W' rb L') (hO : ROther B1 rb W W') : St W0 B1 hb bs rb ab A W' u L' tv ts := by
  refine ⟨h.hp.keep hO.size (hO.block hb h.hp.ltH hP.neH.symm (.inl hP.hH)) (fun c hc => hO.block _ (h.hp.ltB c hc) (hP.neB c hc).symm (.inl (hP.hB c hc))), hR, told_keep h.told ?_, h.act.imp id fun q => ⟨q.1, ?_⟩, ?_, Nat.le_trans h.sz hO.size⟩
  · intro g cur q1 q2
    exact hO.block g (heap_lt q2) (by have := hP.hR; omega) (.inr fun cur' fr e => by rw [q2] at e; injection e with e; injection e with e1 e2 e3; cases e2)
  · exact (hO.block ab (heap_lt q.2) (by have := hP.hR; have := q.1; omega) (.inr fun cur' fr e => by rw [q.2] at e; injection e with e; injection e with e1 e2 e3; cases e2)).trans q.2
  · have s := h.bel.size
    refine h.bel.trans ⟨hO.os, hO.tape, hO.output, hO.size, fun g hg => hO.block g (by omega) (by have := hP.nR; omega) (.inl (by have := hP.b01; omega))⟩
/-- An address is told. -/
theorem St.push (h : St W0 B1 hb bs rb ab A W u L tv ts) (hP : Pl W0.heap.size B1 hb bs rb) {X : Obj} {x : Int} {tv' : Value} (hg : (W.alloc X).grownBy W' tv.ownBlock) (ho : W'.ownsRow B1 3 1 tv' (ts.length + 1) (intL ts ++ [.int .i64 x])) : St W0 B1 hb bs rb ab A W' u L tv' (ts ++ [x]) := by
  have hs : W.heap.size + 1 ≤ W'.heap.size := by have := hg.size; simpa using this
  have ow := h.told
  have lt := ow.lt
  have blk : ∀ g, g < W.heap.size → tv.ownBlock ≠ some g → W'.heap[g]? = W.heap[g]? := fun g h1 h2 => (hg.block g (by simp; omega) (fun e => h2 e.symm)).trans (Below.heap_alloc W X g h1)
  have typ : ∀ g cur t, W.heap[g]? = some (.cells cur t (0, 0)) → t ≠ 3 → tv.ownBlock ≠ some g := by
    intro g cur t q1 q2 e
    rcases ow.2 with ⟨rfl, _⟩ | ⟨g', cap, cur', rfl, _, q3, _⟩
    · simp [Value.ownBlock] at e
    · simp [Value.ownBlock] at e
      subst e
      rw [q1] at q3
      injection q3 with q3; injection q3 with _ q3 _
      exact q2 q3
  have low : ∀ g, g < B1 → tv.ownBlock ≠ some g := fun g hg' e => by have := (lt g e).1; omega
  refine ⟨h.hp.keep (by omega) (blk hb h.hp.ltH (low _ hP.hH)) (fun c hc => blk _ (h.hp.ltB c hc) (low _ (hP.hB c hc))), rows_keep h.rows ?_ ?_, ?_, h.act.imp id fun q => ⟨q.1, (blk ab (heap_lt q.2) (typ ab _ _ q.2 (by decide))).trans q.2⟩, ?_, by have := h.sz; omega⟩
  · obtain ⟨v, hh, _⟩ := h.rows.head
    exact blk rb (cell_lt hh) (low _ hP.hR)
  · intro g cur q1 q2
    exact blk g (heap_lt q2) (typ g _ _ q2 (by decide))
  · have e : intL (ts ++ [x]) = intL ts ++ [.int .i64 x] := by simp [intL]
    rw [e, List.length_append]
    exact ho
  · have s := h.bel.size
    exact h.bel.trans ⟨hg.os, hg.tape, hg.output, by omega, fun g q => blk g (by omega) (low g (by have := hP.b01; omega))⟩
theorem below_drew (W : World) : Below W.heap.size W W.drew := ⟨rfl, rfl, rfl, Nat.le_refl _, fun _ _ => rfl⟩
theorem St.drew (h : St W0 B1 hb bs rb ab A W u L tv ts) : St W0 B1 hb bs rb ab A W.drew u L tv ts := h.below (below_drew W)
/-- The act's cells. -/
theorem St.cells {a b c d : Value} (h : St W0 B1 hb bs rb ab #[a, b, c, d] W u L tv ts) : W.cell? ⟨ab, 0, none⟩ = some a ∧ W.cell? ⟨ab, 1, none⟩ = some b ∧ W.cell? ⟨ab, 2, none⟩ = some c ∧ W.cell? ⟨ab, 3, none⟩ = some d := by
  rcases h.act with q | ⟨_, q⟩
  · simp at q
  · refine ⟨?_, ?_, ?_, ?_⟩ <;> (rw [cell_of_row W ab _ _ 46 (0, 0) q]; simp)
/-- The act is laid anew. -/
theorem St.newAct (h : St W0 B1 hb bs rb ab A W u L tv ts) (A' : Array Value) : St W0 B1 hb bs rb W.heap.size A' (W.alloc (.cells A' 46)) u L tv ts := by
  have hb' : Below W.heap.size W (W.alloc (.cells A' 46)) := (Below.refl _ _).alloc (Nat.le_refl _) _
  have g := h.below hb'
  exact ⟨g.hp, g.rows, g.told, (.inr ⟨h.sz, heap_alloc_new W _⟩), g.bel, g.sz⟩
end
end Go.Proofs.Ytlpdemdakcjjjaa.W
