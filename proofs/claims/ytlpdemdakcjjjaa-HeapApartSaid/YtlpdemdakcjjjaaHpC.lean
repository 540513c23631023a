/- The heap's contracts over its state in memory: Alloc, Free, Live, of any class. -/
import Derived.Test.YtlpdemdakcjjjaaHpNew
import Derived.Test.YtlpdemdakcjjjaaHpW
namespace Go.Proofs.Ytlpdemdakcjjjaa.W
open Go Go.RowKit Go.Proofs Go.Proofs.Ytlpdemdakcjjjaa.Sx
set_option linter.unusedVariables false
set_option linter.unusedSimpArgs false
/-- A class's words, and where its row begins. -/
def szc (c : Nat) : Int := if c = 0 then 4 else if c = 1 then 16 else if c = 2 then 64 else 128
def atc (c : Nat) : Int := if c = 0 then 262144 else if c = 1 then 263168 else if c = 2 then 265216 else 269312
/-- So many words are of this class. -/
def InClass (c : Nat) (w : Int) : Prop := clsK w = c ∧ 0 ≤ w ∧ w ≤ 128
/-- One block turned. -/
structure Fr (b : Nat) (W W' : World) : Prop where
  os : W'.os = W.os
  tape : W'.tape = W.tape
  output : W'.output = W.output
  size : W.heap.size ≤ W'.heap.size
  block : ∀ k, k < W.heap.size → k ≠ b → W'.heap[k]? = W.heap[k]?
theorem Fr.of_below {b : Nat} {W W' : World} (h : Below W.heap.size W W') : Fr b W W' := ⟨h.os, h.tape, h.output, h.size, fun k hk _ => h.block k hk⟩
theorem Fr.below {b B : Nat} {W W' : World} (h : Fr b W W') (hB : B ≤ b) (hW : B ≤ W.heap.size) : Below B W W' := ⟨h.os, h.tape, h.output, h.size, fun k hk => h.block k (by omega) (by omega)⟩
def upd (u : Nat → Nat → Bool) (c i : Nat) (v : Bool) : Nat → Nat → Bool := fun d j => if d = c ∧ j = i then v else u d j
theorem HpAt.set {B : Nat} {W : World} {hb : Nat} {bs : Nat → Nat} {u : Nat → Nat → Bool} (h : HpAt B W hb bs u) {c i : Nat} (hc : c < 4) (hi : i < nb c) (v : Bool) :
    HpAt B (W.setCell ⟨bs c, i, none⟩ (.bool v)) hb bs (upd u c i v) := by
  have hs : (W.setCell ⟨bs c, i, none⟩ (.bool v)).heap.size = W.heap.size := by simp [World.setCell]
  have ho : ∀ b o, (b, o) ≠ (bs c, i) → (W.setCell ⟨bs c, i, none⟩ (.bool v)).cell? ⟨b, o, none⟩ = W.cell? ⟨b, o, none⟩ := fun b o hne =>
    World.cell?_setCell_other _ _ _ _ (fun e => hne (by injection e with e1 e2; rw [e1, e2]))
  constructor
  · rw [ho _ _ (by have := h.off c hc; simp; omega)]; exact h.made
  · intro d hd; rw [ho _ _ (by have := h.off c hc; simp; omega)]; exact h.arr d hd
  · intro d hd j hj
    unfold upd
    by_cases e : d = c ∧ j = i
    · obtain ⟨rfl, rfl⟩ := e
      rw [if_pos ⟨rfl, rfl⟩]
      exact World.cell?_setCell_same _ _ _ (h.used d hd j hj)
    · rw [if_neg e, ho _ _ ?_]
      · exact h.used d hd j hj
      · intro q
        simp only [Prod.mk.injEq] at q
        by_cases e2 : d = c
        · exact e ⟨e2, q.2⟩
        · exact h.apart d c hd hc e2 q.1
  · intro d hd j hj; rw [World.frozen?_setCell]; exact h.froz d hd j hj
  · exact h.off
  · exact h.apart
  · exact h.newH
  · exact h.newB
  · rw [hs]; exact h.ltH
  · intro d hd; rw [hs]; exact h.ltB d hd
theorem fr_set {W W1 W' : World} {b i : Nat} {v : Value} (h1 : Below W.heap.size W W1) (h2 : Below (W1.setCell ⟨b, i, none⟩ v).heap.size (W1.setCell ⟨b, i, none⟩ v) W') : Fr b W W' := by
  have hs : (W1.setCell ⟨b, i, none⟩ v).heap.size = W1.heap.size := by simp [World.setCell]
  have e1 : (W1.setCell ⟨b, i, none⟩ v).os = W1.os := rfl
  refine ⟨h2.os.trans h1.os, h2.tape.trans h1.tape, h2.output.trans h1.output, ?_, ?_⟩
  · have a := h1.size; have c := h2.size; omega
  · intro k hk hne
    rw [h2.block k (by have := h1.size; omega), Below.heap_setCell _ _ _ _ hne]
    exact h1.block k hk
/-- What Alloc does to a heap. -/
def AllocOn (B : Nat) (W : World) (hb : Nat) (bs : Nat → Nat) (u : Nat → Nat → Bool) (c : Nat) (e : Ending) (W' : World) : Prop :=
  (∃ i : Nat, i < nb c ∧ u c i = false ∧ (∀ j, j < i → u c j = true) ∧ e = .returned (.tuple #[.int .i64 (atc c + 4 * szc c * i), .int .i64 0]) ∧ HpAt B W' hb bs (upd u c i true) ∧ Fr (bs c) W W') ∨
  ((∀ j, j < nb c → u c j = true) ∧ e = .returned (.tuple #[.int .i64 0, .int .i64 12]) ∧ HpAt B W' hb bs u ∧ Fr (bs c) W W')
theorem allocOn_of {B : Nat} {W : World} {hb : Nat} {bs : Nat → Nat} {u : Nat → Nat → Bool} (h : HpAt B W hb bs u) {c : Nat} (hc : c < 4) {e : Ending} {W' : World} (p : AllocTo W (bs c) (u c) (nb c) (atc c) (4 * szc c) e W') : AllocOn B W hb bs u c e W' := by
  rcases p with ⟨i, h1, h2, h3, h4, W1, h5, h6⟩ | ⟨h1, h2, h3⟩
  · exact .inl ⟨i, h1, h2, h3, h4, ((h.below h5).set hc h1 true).below h6, fr_set h5 h6⟩
  · exact .inr ⟨h1, h2, h.below h3, Fr.of_below h3⟩
theorem alloc_any {B : Nat} {W : World} {hb : Nat} {bs : Nat → Nat} {u : Nat → Nat → Bool} (h : HpAt B W hb bs u) {c : Nat} (hc : c < 4) {w : Int} (hw : InClass c w) :
    Calls Try.prog 9 #[.pointer (some ⟨hb, 0, none⟩), .int .i64 w] W (AllocOn B W hb bs u c) := by
  have g := fun e W' => @allocOn_of B W hb bs u h c hc e W'
  obtain ⟨w1, w2, w3⟩ := hw
  have ha := h.arr c hc
  have hu := h.used c hc
  have hf := h.froz c hc
  have hl := h.ltB c hc
  match c, hc with
  | 0, _ => exact (alloc0 hb (bs 0) (u 0) w W (by omega) (by unfold clsK at w1; repeat' split at w1 <;> simp at w1 <;> omega) h.made ha hu hf h.ltH hl).mono g
  | 1, _ => exact (alloc1 hb (bs 1) (u 1) w W (by unfold clsK at w1; repeat' split at w1 <;> simp at w1 <;> omega) (by unfold clsK at w1; repeat' split at w1 <;> simp at w1 <;> omega) h.made ha hu hf h.ltH hl).mono g
  | 2, _ => exact (alloc2 hb (bs 2) (u 2) w W (by unfold clsK at w1; repeat' split at w1 <;> simp at w1 <;> omega) (by unfold clsK at w1; repeat' split at w1 <;> simp at w1 <;> omega) h.made ha hu hf h.ltH hl).mono g
  | 3, _ => exact (alloc3 hb (bs 3) (u 3) w W (by unfold clsK at w1; repeat' split at w1 <;> simp at w1 <;> omega) (by omega) h.made ha hu hf h.ltH hl).mono g
theorem find_any {B : Nat} {W : World} {hb : Nat} {bs : Nat → Nat} {u : Nat → Nat → Bool} (h : HpAt B W hb bs u) {c : Nat} (hc : c < 4) {k : Nat} (hk : k < nb c) {o : Int} (ho : 0 ≤ o) (ho2 : o < 4 * szc c) :
    Calls Try.prog 22 #[.pointer (some ⟨hb, 0, none⟩), .int .i64 (atc c + 4 * szc c * k + o)] W (Found W c k o (u c k)) := by
  have ha := h.arr c hc
  have hu := h.used c hc k hk
  have hl := h.ltB c hc
  match c, hc with
  | 0, _ => exact find0 hb (bs 0) (u 0) k o hk ho ho2 W ha hu h.ltH hl
  | 1, _ => exact find1 hb (bs 1) (u 1) k o hk ho ho2 W ha hu h.ltH hl
  | 2, _ => exact find2 hb (bs 2) (u 2) k o hk ho ho2 W ha hu h.ltH hl
  | 3, _ => exact find3 hb (bs 3) (u 3) k o hk ho ho2 W ha hu h.ltH hl
theorem free_hit {B : Nat} {W : World} {hb : Nat} {bs : Nat → Nat} {u : Nat → Nat → Bool} (h : HpAt B W hb bs u) {c : Nat} (hc : c < 4) {k : Nat} (hk : k < nb c) (huk : u c k = true) :
    Calls Try.prog 10 #[.pointer (some ⟨hb, 0, none⟩), .int .i64 (atc c + 4 * szc c * k)] W fun e W' => e = .returned (.int .i64 0) ∧ HpAt B W' hb bs (upd u c k false) ∧ Fr (bs c) W W' := by
  have hF := find_any h hc hk (o := 0) (by omega) (by unfold szc; repeat' split <;> omega)
  rw [huk, Int.add_zero] at hF
  have ha := h.arr c hc
  have hu := h.used c hc k hk
  rw [huk] at hu
  have hf := h.froz c hc k hk
  have hl := h.ltB c hc
  have g : ∀ (e : Ending) (W' : World), (e = .returned (.int .i64 0) ∧ ∃ W1, Below W.heap.size W W1 ∧ W' = W1.setCell ⟨bs c, k, none⟩ (.bool false)) → e = .returned (.int .i64 0) ∧ HpAt B W' hb bs (upd u c k false) ∧ Fr (bs c) W W' := by
    rintro e W' ⟨rfl, W1, h1, rfl⟩
    exact ⟨rfl, (h.below h1).set hc hk false, fr_set h1 (Below.refl _ _)⟩
  match c, hc with
  | 0, _ => exact (free0 hb (bs 0) k _ hk W h.made ha hu hf h.ltH hl hF).mono g
  | 1, _ => exact (free1 hb (bs 1) k _ hk W h.made ha hu hf h.ltH hl hF).mono g
  | 2, _ => exact (free2 hb (bs 2) k _ hk W h.made ha hu hf h.ltH hl hF).mono g
  | 3, _ => exact (free3 hb (bs 3) k _ hk W h.made ha hu hf h.ltH hl hF).mono g
theorem live_any {B : Nat} {W : World} {hb : Nat} {bs : Nat → Nat} {u : Nat → Nat → Bool} (h : HpAt B W hb bs u) {c : Nat} (hc : c < 4) :
    Calls Try.prog 11 #[.pointer (some ⟨hb, 0, none⟩), .int .i64 c] W fun e w' => e = .returned (.int .i64 (cnt (u c) (nb c))) ∧ w' = W := by
  have ha := h.arr c hc
  have hu := h.used c hc
  match c, hc with
  | 0, _ => exact live0 hb (bs 0) (u 0) W h.made ha hu
  | 1, _ => exact live1 hb (bs 1) (u 1) W h.made ha hu
  | 2, _ => exact live2 hb (bs 2) (u 2) W h.made ha hu
  | 3, _ => exact live3 hb (bs 3) (u 3) W h.made ha hu
end Go.Proofs.Ytlpdemdakcjjjaa.W
