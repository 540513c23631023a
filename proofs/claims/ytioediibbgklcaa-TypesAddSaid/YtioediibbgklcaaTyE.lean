/- The counter: its state, and what a call of add leaves. -/
import Derived.Test.YtioediibbgklcaaTyD
import Derived.Deep.RegionHeld3
namespace Go.Proofs.Ytioediibbgklcaa.W
open Go Go.RowKit Go.Proofs
set_option linter.unusedVariables false
set_option linter.unusedSimpArgs false
structure Cnt (W0 : World) (cb : Nat) (lv : Value) (l : Int) (bad : Bool) (w : World) : Prop where
  at' : w.heap[cb]? = some (.cells #[lv, .int .i64 l, .bool bad] 74 (0, 0))
  bel : Below W0.heap.size W0 w
  ge : W0.heap.size ≤ cb
/-- What a count came to. -/
def Res (r : Option (Nat × Am)) (l : Int) (bad : Bool) (p w : Int) (m : Bool) : Prop := match r with
  | some (n, a) => bad = false ∧ l = n ∧ p = a.parts ∧ w = a.words ∧ m = a.moves
  | none => bad = true
/-- What a call leaves that counts. -/
structure Left (W0 : World) (cb : Nat) (lv : Value) (r : Option (Nat × Am)) (W : World) (e : Ending) (w' : World) : Prop where
  ex : ∃ l bad p w m, e = .returned (.agg #[.int .i64 p, .int .i64 w, .bool m]) ∧ Cnt W0 cb lv l bad w' ∧ Res r l bad p w m
  grown : W.grownBy w' (some cb)
def ok? (bad : Bool) (r : Option (Nat × Am)) : Option (Nat × Am) := if bad then none else r
/-- How add answers. -/
def AddC (W0 : World) (cb : Nat) (lv : Value) (add : Adder) (f : Nat) : Prop :=
  ∀ (W : World) (l : Int) (bad : Bool) (c0 c1 c2 c3 : Value) (t : Ty), TyAt W0 [c0, c1, c2, c3] t → Cnt W0 cb lv l bad W → (bad = false → 0 ≤ l ∧ l < f) →
    Calls Try.prog 34 #[.pointer (some ⟨cb, 0, none⟩), .agg #[c0, c1, c2, c3]] W (Left W0 cb lv (ok? bad (add l.toNat t)) W)
theorem sumS_snoc (add : Adder) (t : Ty) : ∀ (ts : List Ty) (l : Nat) (a : Am), sumS add (ts ++ [t]) l a = match sumS add ts l a with
    | none => none
    | some (l', b) => match add l' t with
      | none => none
      | some (l2, c) => some (l2, b.plus c)
  | [], l, a => by
    simp only [List.nil_append, sumS]
    cases add l t with
    | none => rfl
    | some x => obtain ⟨x, y⟩ := x; rfl
  | u :: ts, l, a => by
    simp only [List.cons_append, sumS]
    cases add l u with
    | none => rfl
    | some x => obtain ⟨x, y⟩ := x; simp only; exact sumS_snoc add t ts x _
/-- A row of three cells: an amount. -/
structure AmAt (b : Nat) (p w : Int) (m : Bool) (X : World) : Prop where
  at' : X.heap[b]? = some (.cells #[.int .i64 p, .int .i64 w, .bool m] 55 (0, 0))
theorem AmAt.cells {b : Nat} {p w : Int} {m : Bool} {X : World} (h : AmAt b p w m X) : X.cell? ⟨b, 0, none⟩ = some (.int .i64 p) ∧ X.cell? ⟨b, 1, none⟩ = some (.int .i64 w) ∧ X.cell? ⟨b, 2, none⟩ = some (.bool m) ∧ X.frozen? ⟨b, 0, none⟩ = false ∧ X.frozen? ⟨b, 1, none⟩ = false ∧ X.frozen? ⟨b, 2, none⟩ = false := by
  refine ⟨?_, ?_, ?_, frozen_of_row _ _ 0 _ 55 h.at', frozen_of_row _ _ 1 _ 55 h.at', frozen_of_row _ _ 2 _ 55 h.at'⟩ <;> (rw [cell_of_row _ _ _ _ 55 (0, 0) h.at']; rfl)
theorem AmAt.put {b : Nat} {p w : Int} {m : Bool} {X : World} (h : AmAt b p w m X) (p' w' : Int) (m' : Bool) : AmAt b p' w' m' (((X.setCell ⟨b, 0, none⟩ (.int .i64 p')).setCell ⟨b, 1, none⟩ (.int .i64 w')).setCell ⟨b, 2, none⟩ (.bool m')) := by
  have e0 : (X.setCell ⟨b, 0, none⟩ (.int .i64 p')).heap[b]? = some (.cells #[.int .i64 p', .int .i64 w, .bool m] 55 (0, 0)) := heap_setCell_same _ b 0 _ 55 _ h.at'
  have e1 : ((X.setCell ⟨b, 0, none⟩ (.int .i64 p')).setCell ⟨b, 1, none⟩ (.int .i64 w')).heap[b]? = some (.cells #[.int .i64 p', .int .i64 w', .bool m] 55 (0, 0)) := heap_setCell_same _ b 1 _ 55 _ e0
  have e2 : (((X.setCell ⟨b, 0, none⟩ (.int .i64 p')).setCell ⟨b, 1, none⟩ (.int .i64 w')).setCell ⟨b, 2, none⟩ (.bool m')).heap[b]? = some (.cells #[.int .i64 p', .int .i64 w', .bool m'] 55 (0, 0)) := heap_setCell_same _ b 2 _ 55 _ e1
  exact ⟨e2⟩
theorem Cnt.cells {W0 w : World} {cb : Nat} {lv : Value} {l : Int} {bad : Bool} (h : Cnt W0 cb lv l bad w) : w.cell? ⟨cb, 0, none⟩ = some lv ∧ w.cell? ⟨cb, 1, none⟩ = some (.int .i64 l) ∧ w.cell? ⟨cb, 2, none⟩ = some (.bool bad) ∧ w.frozen? ⟨cb, 1, none⟩ = false ∧ w.frozen? ⟨cb, 2, none⟩ = false := by
  refine ⟨?_, ?_, ?_, frozen_of_row _ _ 1 _ 74 h.at', frozen_of_row _ _ 2 _ 74 h.at'⟩ <;> (rw [cell_of_row _ _ _ _ 74 (0, 0) h.at']; rfl)
theorem Cnt.lt {W0 w : World} {cb : Nat} {lv : Value} {l : Int} {bad : Bool} (h : Cnt W0 cb lv l bad w) : cb < w.heap.size := (Array.getElem?_eq_some_iff.1 h.at').1
theorem Cnt.keep {W0 w w' : World} {cb : Nat} {lv : Value} {l : Int} {bad : Bool} (h : Cnt W0 cb lv l bad w) (hb : Below w.heap.size w w') : Cnt W0 cb lv l bad w' := ⟨(hb.block cb h.lt).trans h.at', h.bel.trans (hb.mono h.bel.size), h.ge⟩
theorem grown_trans {a b c : World} {r : Option Nat} (h : a.grownBy b r) (k : b.grownBy c r) : a.grownBy c r :=
  ⟨k.os.trans h.os, k.tape.trans h.tape, k.output.trans h.output, Nat.le_trans h.size k.size, fun i hi hn => (k.block i (Nat.lt_of_lt_of_le hi h.size) hn).trans (h.block i hi hn)⟩
theorem below_grown {a b : World} {r : Option Nat} (h : Below a.heap.size a b) : a.grownBy b r := ⟨h.os, h.tape, h.output, h.size, fun i hi _ => h.block i hi⟩
/-- What lies above all that was there may be turned. -/
theorem grown_new {a b c : World} {r : Option Nat} {g : Nat} (h : a.grownBy b r) (k : b.grownBy c (some g)) (hg : a.heap.size ≤ g) : a.grownBy c r :=
  ⟨k.os.trans h.os, k.tape.trans h.tape, k.output.trans h.output, Nat.le_trans h.size k.size, fun i hi hn => (k.block i (Nat.lt_of_lt_of_le hi h.size) (fun e => by injection e with e; omega)).trans (h.block i hi hn)⟩
theorem setCell_grown (w : World) (g o : Nat) (v : Value) : w.grownBy (w.setCell ⟨g, o, none⟩ v) (some g) := by
  refine ⟨rfl, rfl, rfl, by simp [World.setCell], fun k hk hne => ?_⟩
  exact Below.heap_setCell _ _ _ _ (by rintro rfl; exact hne rfl)
/-- Added together. -/
theorem res_plus {add : Adder} (hf : Fair add) {ts : List Ty} {t : Ty} {l0 : Nat} {a0 : Am} {b0 : Bool} {l l2 : Int} {bad bad2 : Bool} {p w p2 w2 : Int} {m m2 : Bool} (hL : b0 = false → l0 + a0.parts ≤ 1000000) (ha : a0.words ≤ 2 * a0.parts)
    (h1 : Res (ok? b0 (sumS add ts l0 a0)) l bad p w m) (h2 : Res (ok? bad (add l.toNat t)) l2 bad2 p2 w2 m2) : Res (ok? b0 (sumS add (ts ++ [t]) l0 a0)) l2 bad2 (wrap64 (p + p2)) (wrap64 (w + w2)) (m || m2) := by
  cases b0 with
  | true =>
    have h1 : bad = true := h1
    subst h1
    exact h2
  | false =>
    have e0 : ∀ r, ok? false r = r := fun r => rfl
    have hL := hL rfl
    rw [e0] at h1 ⊢
    rw [sumS_snoc]
    cases hs : sumS add ts l0 a0 with
    | none =>
      rw [hs] at h1
      have h1 : bad = true := h1
      subst h1
      exact h2
    | some x =>
      obtain ⟨n, a⟩ := x
      rw [hs] at h1
      obtain ⟨rfl, rfl, rfl, rfl, rfl⟩ := h1
      rw [e0] at h2
      simp only [Int.toNat_natCast] at h2
      obtain ⟨f1, f2, _⟩ := sumS_fair hf _ _ _ _ _ hs
      simp only
      cases hd : add n t with
      | none => rw [hd] at h2; exact h2
      | some y =>
        obtain ⟨n2, c⟩ := y
        rw [hd] at h2
        obtain ⟨rfl, rfl, rfl, rfl, rfl⟩ := h2
        obtain ⟨g1, g2, _⟩ := hf _ _ _ _ hd
        have k1 : -9223372036854775808 ≤ (a.parts : Int) + c.parts ∧ (a.parts : Int) + c.parts ≤ 9223372036854775807 := by omega
        have k2 : -9223372036854775808 ≤ (a.words : Int) + c.words ∧ (a.words : Int) + c.words ≤ 9223372036854775807 := by omega
        have w1 := IntWalk.wrap64_in _ k1
        have w2 := IntWalk.wrap64_in _ k2
        rw [w1, w2]
        exact ⟨rfl, rfl, by simp [Am.plus], by simp [Am.plus], rfl⟩
end Go.Proofs.Ytioediibbgklcaa.W
