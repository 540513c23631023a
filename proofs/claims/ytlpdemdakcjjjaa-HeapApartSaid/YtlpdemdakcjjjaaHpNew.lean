/- The heap's state in memory; New makes one in which no block is in use. -/
import Derived.Test.YtlpdemdakcjjjaaHpW
import Derived.RegionTactic
namespace Go.Proofs.Ytlpdemdakcjjjaa.W
open Go Go.RowKit Go.Proofs Go.Proofs.Ytlpdemdakcjjjaa.Sx
set_option linter.unusedVariables false
set_option linter.unusedSimpArgs false
/-- How many blocks a class has. -/
def nb (c : Nat) : Nat := if c = 0 then 64 else if c = 1 then 32 else if c = 2 then 16 else 8
/-- A heap in memory: its own block, its classes' rows, which of them are in use. -/
structure HpAt (B : Nat) (W : World) (hb : Nat) (bs : Nat → Nat) (u : Nat → Nat → Bool) : Prop where
  made : W.cell? ⟨hb, 0, none⟩ = some (.bool true)
  arr : ∀ c, c < 4 → W.cell? ⟨hb, c + 1, none⟩ = some (.slice (some ⟨bs c, 0, none⟩) (nb c) (nb c))
  used : ∀ c, c < 4 → ∀ i, i < nb c → W.cell? ⟨bs c, i, none⟩ = some (.bool (u c i))
  froz : ∀ c, c < 4 → ∀ i, i < nb c → W.frozen? ⟨bs c, i, none⟩ = false
  off : ∀ c, c < 4 → bs c ≠ hb
  apart : ∀ c d, c < 4 → d < 4 → c ≠ d → bs c ≠ bs d
  newH : B ≤ hb
  newB : ∀ c, c < 4 → B ≤ bs c
  ltH : hb < W.heap.size
  ltB : ∀ c, c < 4 → bs c < W.heap.size
theorem HpAt.keep {B : Nat} {W W' : World} {hb : Nat} {bs : Nat → Nat} {u : Nat → Nat → Bool} (h : HpAt B W hb bs u) (hs : W.heap.size ≤ W'.heap.size) (hh : W'.heap[hb]? = W.heap[hb]?) (hk : ∀ c, c < 4 → W'.heap[bs c]? = W.heap[bs c]?) : HpAt B W' hb bs u where
  made := (World.cell?_of_block (w := W) hh).trans h.made
  arr c hc := (World.cell?_of_block (w := W) hh).trans (h.arr c hc)
  used c hc i hi := (World.cell?_of_block (w := W) (hk c hc)).trans (h.used c hc i hi)
  froz c hc i hi := (World.frozen?_of_block (w := W) (hk c hc)).trans (h.froz c hc i hi)
  off := h.off
  apart := h.apart
  newH := h.newH
  newB := h.newB
  ltH := Nat.lt_of_lt_of_le h.ltH hs
  ltB c hc := Nat.lt_of_lt_of_le (h.ltB c hc) hs
theorem HpAt.below {B : Nat} {W W' : World} {hb : Nat} {bs : Nat → Nat} {u : Nat → Nat → Bool} (h : HpAt B W hb bs u) (hb' : Below W.heap.size W W') : HpAt B W' hb bs u :=
  h.keep hb'.size (hb'.block _ h.ltH) fun c hc => hb'.block _ (h.ltB c hc)
/-- While New makes its rows. -/
structure NewInv (k : Nat) (hb : Nat) (bs : Nat → Nat) (W : World) : Prop where
  made : W.cell? ⟨hb, 0, none⟩ = some (.bool true)
  arr : ∀ c, c < k → W.cell? ⟨hb, c + 1, none⟩ = some (.slice (some ⟨bs c, 0, none⟩) (nb c) (nb c))
  rest : ∀ c, k ≤ c → c < 4 → W.cell? ⟨hb, c + 1, none⟩ = some (.slice none 0 0)
  fr : ∀ c, c < 4 → W.frozen? ⟨hb, c + 1, none⟩ = false
  used : ∀ c, c < k → ∀ i, i < nb c → W.cell? ⟨bs c, i, none⟩ = some (.bool false)
  froz : ∀ c, c < k → ∀ i, i < nb c → W.frozen? ⟨bs c, i, none⟩ = false
  ord : ∀ c, c < k → hb < bs c ∧ bs c < W.heap.size
  up : ∀ c d, c < d → d < k → bs c < bs d
  ltH : hb < W.heap.size
theorem old_cell {W : World} (X Y : Obj) {b o : Nat} (h : b < W.heap.size) : ((W.alloc X).alloc Y).cell? ⟨b, o, none⟩ = W.cell? ⟨b, o, none⟩ :=
  (World.cell?_alloc_past _ _ _ (by simp; omega)).trans (World.cell?_alloc_past _ _ _ h)
theorem old_frozen {W : World} (X Y : Obj) {b o : Nat} (h : b < W.heap.size) : ((W.alloc X).alloc Y).frozen? ⟨b, o, none⟩ = W.frozen? ⟨b, o, none⟩ :=
  (World.frozen?_alloc_past _ _ _ (by simp; omega)).trans (World.frozen?_alloc_past _ _ _ h)
theorem NewInv.step {k hb : Nat} {bs : Nat → Nat} {W : World} (h : NewInv k hb bs W) (hk : k < 4) (X : Obj) :
    NewInv (k + 1) hb (fun c => if c = k then W.heap.size + 1 else bs c) ((((W.setCell ⟨hb, k + 1, none⟩ (.slice (some ⟨W.heap.size + 1, 0, none⟩) (nb k) (nb k))).alloc X).alloc (.cells (Array.replicate (nb k) (.bool false)) 4)).drew) := by
  have hs1 : (W.setCell ⟨hb, k + 1, none⟩ (.slice (some ⟨W.heap.size + 1, 0, none⟩) (nb k) (nb k))).heap.size = W.heap.size := by simp [World.setCell]
  have hset : ∀ b o, (b, o) ≠ (hb, k + 1) → (W.setCell ⟨hb, k + 1, none⟩ (.slice (some ⟨W.heap.size + 1, 0, none⟩) (nb k) (nb k))).cell? ⟨b, o, none⟩ = W.cell? ⟨b, o, none⟩ := by
    intro b o hne
    exact World.cell?_setCell_other _ _ _ _ (fun e => hne (by injection e with e1 e2; rw [e1, e2]))
  have hfz : ∀ b o, (W.setCell ⟨hb, k + 1, none⟩ (.slice (some ⟨W.heap.size + 1, 0, none⟩) (nb k) (nb k))).frozen? ⟨b, o, none⟩ = W.frozen? ⟨b, o, none⟩ := by
    intro b o
    rw [World.frozen?_setCell]
  have hself : (W.setCell ⟨hb, k + 1, none⟩ (.slice (some ⟨W.heap.size + 1, 0, none⟩) (nb k) (nb k))).cell? ⟨hb, k + 1, none⟩ = some (.slice (some ⟨W.heap.size + 1, 0, none⟩) (nb k) (nb k)) := World.cell?_setCell_same _ _ _ (h.rest k (Nat.le_refl _) hk)
  generalize W.setCell ⟨hb, k + 1, none⟩ (.slice (some ⟨W.heap.size + 1, 0, none⟩) (nb k) (nb k)) = W1 at hs1 hset hfz hself
  have hl := h.ltH
  have hl1 : hb < W1.heap.size := by omega
  have hnew : ∀ i, i < nb k → ((W1.alloc X).alloc (.cells (Array.replicate (nb k) (.bool false)) 4)).drew.cell? ⟨W.heap.size + 1, i, none⟩ = some (.bool false) := by
    intro i hi
    rw [World.cell?_drew, World.cell?_alloc_at _ _ _ _ (by simp [hs1])]
    simp [hi]
  have hnf : ∀ i, ((W1.alloc X).alloc (.cells (Array.replicate (nb k) (.bool false)) 4)).drew.frozen? ⟨W.heap.size + 1, i, none⟩ = false := by
    intro i
    have : W.heap.size + 1 = (W1.alloc X).heap.size := by simp [hs1]
    rw [this, World.frozen?_drew]; simp
  have hold : ∀ b o, b < W.heap.size → ((W1.alloc X).alloc (.cells (Array.replicate (nb k) (.bool false)) 4)).drew.cell? ⟨b, o, none⟩ = W1.cell? ⟨b, o, none⟩ := fun b o hb' => by
    rw [World.cell?_drew]; exact old_cell X _ (by omega)
  have holf : ∀ b o, b < W.heap.size → ((W1.alloc X).alloc (.cells (Array.replicate (nb k) (.bool false)) 4)).drew.frozen? ⟨b, o, none⟩ = W.frozen? ⟨b, o, none⟩ := fun b o hb' => by
    rw [World.frozen?_drew]; exact (old_frozen X _ (by omega)).trans (hfz b o)
  have hsz : ((W1.alloc X).alloc (.cells (Array.replicate (nb k) (.bool false)) 4)).drew.heap.size = W.heap.size + 2 := by simp [hs1]
  generalize ((W1.alloc X).alloc (.cells (Array.replicate (nb k) (.bool false)) 4)).drew = W2 at hnew hnf hold holf hsz
  constructor
  · rw [hold _ _ hl, hset _ _ (by simp)]; exact h.made
  · intro c hc
    rw [hold _ _ hl]
    by_cases e : c = k
    · subst e; rw [if_pos rfl]; exact hself
    · rw [if_neg e, hset _ _ (by simp; omega)]; exact h.arr c (by omega)
  · intro c h1 h2
    rw [hold _ _ hl, hset _ _ (by simp; omega)]
    exact h.rest c (by omega) h2
  · intro c hc; rw [holf _ _ hl]; exact h.fr c hc
  · intro c hc i hi
    by_cases e : c = k
    · subst e; simp only [if_true]; exact hnew i hi
    · simp only [if_neg e]
      have := h.ord c (by omega)
      rw [hold _ _ this.2, hset _ _ (by simp; omega)]
      exact h.used c (by omega) i hi
  · intro c hc i hi
    by_cases e : c = k
    · subst e; simp only [if_true]; exact hnf i
    · simp only [if_neg e]
      rw [holf _ _ (h.ord c (by omega)).2]
      exact h.froz c (by omega) i hi
  · intro c hc
    rw [hsz]
    by_cases e : c = k
    · subst e; simp only [if_true]; omega
    · simp only [if_neg e]; have := h.ord c (by omega); omega
  · intro c d hcd hd
    have hc1 : c ≠ k := by omega
    simp only [if_neg hc1]
    by_cases e : d = k
    · simp only [if_pos e]; have := h.ord c (by omega); omega
    · simp only [if_neg e]; exact h.up c d hcd (by omega)
  · rw [hsz]; omega
theorem NewInv.done {hb : Nat} {bs : Nat → Nat} {W : World} (h : NewInv 4 hb bs W) : HpAt hb W hb bs (fun _ _ => false) where
  made := h.made
  arr := h.arr
  used := h.used
  froz := h.froz
  off c hc := by have := h.ord c hc; omega
  apart c d hc hd hne := by
    rcases Nat.lt_or_gt_of_ne hne with h1 | h1
    · have := h.up c d h1 hd; omega
    · have := h.up d c h1 hc; omega
  newH := Nat.le_refl _
  newB c hc := by have := h.ord c hc; omega
  ltH := h.ltH
  ltB c hc := (h.ord c hc).2
set_option maxRecDepth 100000 in
theorem new_any (W : World) : Calls Try.prog 13 #[] W fun e w' => ∃ hb bs, e = .returned (.pointer (some ⟨hb, 0, none⟩)) ∧ HpAt W.heap.size w' hb bs (fun _ _ => false) ∧ Below W.heap.size W w' := by
  have i0 : ∀ w, (Instr.index 55 allV (.int .i64 0)).run Try.prog w = .ok (.agg #[.int .i64 4, .int .i64 64, .int .i64 262144]) w := fun _ => by kernel_rfl
  have i1 : ∀ w, (Instr.index 55 allV (.int .i64 1)).run Try.prog w = .ok (.agg #[.int .i64 16, .int .i64 32, .int .i64 263168]) w := fun _ => by kernel_rfl
  have i2 : ∀ w, (Instr.index 55 allV (.int .i64 2)).run Try.prog w = .ok (.agg #[.int .i64 64, .int .i64 16, .int .i64 265216]) w := fun _ => by kernel_rfl
  have i3 : ∀ w, (Instr.index 55 allV (.int .i64 3)).run Try.prog w = .ok (.agg #[.int .i64 128, .int .i64 8, .int .i64 269312]) w := fun _ => by kernel_rfl
  have m0 : ∀ w, (Instr.makeSlice 28 (.int .i64 64) (.int .i64 64)).run Try.prog w = .ok (.slice (some ⟨w.heap.size, 0, none⟩) 64 64) (w.alloc (.cells (Array.replicate (nb 0) (.bool false)) 4)) := fun _ => by kernel_rfl
  have m1 : ∀ w, (Instr.makeSlice 28 (.int .i64 32) (.int .i64 32)).run Try.prog w = .ok (.slice (some ⟨w.heap.size, 0, none⟩) 32 32) (w.alloc (.cells (Array.replicate (nb 1) (.bool false)) 4)) := fun _ => by kernel_rfl
  have m2 : ∀ w, (Instr.makeSlice 28 (.int .i64 16) (.int .i64 16)).run Try.prog w = .ok (.slice (some ⟨w.heap.size, 0, none⟩) 16 16) (w.alloc (.cells (Array.replicate (nb 2) (.bool false)) 4)) := fun _ => by kernel_rfl
  have m3 : ∀ w, (Instr.makeSlice 28 (.int .i64 8) (.int .i64 8)).run Try.prog w = .ok (.slice (some ⟨w.heap.size, 0, none⟩) 8 8) (w.alloc (.cells (Array.replicate (nb 3) (.bool false)) 4)) := fun _ => by kernel_rfl
  go_enter Try.func13, Try.ntmps13
  go_wp2_with (go_at_call 20; refine (all_calls _).mono ?_; rintro e W0 ⟨rfl, hb0⟩)
  have hI : NewInv 0 W.heap.size (fun _ => 0) W0 := by
    obtain ⟨hc0, hf0⟩ := bcell hb0
    have hz : W.heap.size + 1 ≤ W0.heap.size := by have := hb0.size; simp at this; omega
    refine ⟨(hc0 W.heap.size 0 (by simp)).trans (by simp), fun c h => absurd h (by omega), ?_, ?_, fun c h => absurd h (by omega), fun c h => absurd h (by omega), fun c h => absurd h (by omega), fun c d h1 h2 => absurd h2 (by omega), by omega⟩
    · intro c _ hc
      refine (hc0 W.heap.size (c + 1) (by simp)).trans ?_
      match c, hc with
      | 0, _ => simp
      | 1, _ => simp
      | 2, _ => simp
      | 3, _ => simp
    · intro c _
      refine (hf0 W.heap.size (c + 1) (by simp)).trans ?_
      simp
  have hB : Below W.heap.size W W0 := ((Below.refl _ _).alloc (Nat.le_refl _) _).trans (hb0.mono (by simp))
  clear hb0
  go_loopw [7] (fun i wr => ∃ (k : Nat) (bs : Nat → Nat), k ≤ 4 ∧ i = .int .i64 k ∧ NewInv k W.heap.size bs wr ∧ Below W.heap.size W wr) (fun i _ => 4 - (intOf i).toNat)
  case atStart => exact ⟨0, _, Nat.zero_le _, rfl, hI, hB⟩
  case round =>
    clear hI hB
    obtain ⟨k, bs, hk, rfl, hI, hB⟩ := hrel
    have hl := hI.ltH
    match k, hk with
    | 0, _ =>
      have q1 := fun X Y => (old_cell X Y hl).trans (hI.rest 0 (Nat.le_refl _) (by omega))
      have q2 := fun X Y => (old_frozen X Y hl).trans (hI.fr 0 (by omega))
      go_wp2
      go_region
      go_wp2
      go_roundw
      case rel => exact ⟨1, _, by omega, rfl, hI.step (by omega) _, ((((hB.setCell (Nat.le_refl _) _).alloc (by simp [World.setCell]; exact hB.size) _).alloc (by simp [World.setCell]; have := hB.size; omega) _).drew)⟩
      case measure => simp [intOf]
    | 1, _ =>
      have q1 := fun X Y => (old_cell X Y hl).trans (hI.rest 1 (Nat.le_refl _) (by omega))
      have q2 := fun X Y => (old_frozen X Y hl).trans (hI.fr 1 (by omega))
      go_wp2
      go_region
      go_wp2
      go_roundw
      case rel => exact ⟨2, _, by omega, rfl, hI.step (by omega) _, ((((hB.setCell (Nat.le_refl _) _).alloc (by simp [World.setCell]; exact hB.size) _).alloc (by simp [World.setCell]; have := hB.size; omega) _).drew)⟩
      case measure => simp [intOf]
    | 2, _ =>
      have q1 := fun X Y => (old_cell X Y hl).trans (hI.rest 2 (Nat.le_refl _) (by omega))
      have q2 := fun X Y => (old_frozen X Y hl).trans (hI.fr 2 (by omega))
      go_wp2
      go_region
      go_wp2
      go_roundw
      case rel => exact ⟨3, _, by omega, rfl, hI.step (by omega) _, ((((hB.setCell (Nat.le_refl _) _).alloc (by simp [World.setCell]; exact hB.size) _).alloc (by simp [World.setCell]; have := hB.size; omega) _).drew)⟩
      case measure => simp [intOf]
    | 3, _ =>
      have q1 := fun X Y => (old_cell X Y hl).trans (hI.rest 3 (Nat.le_refl _) (by omega))
      have q2 := fun X Y => (old_frozen X Y hl).trans (hI.fr 3 (by omega))
      go_wp2
      go_region
      go_wp2
      go_roundw
      case rel => exact ⟨4, _, by omega, rfl, hI.step (by omega) _, ((((hB.setCell (Nat.le_refl _) _).alloc (by simp [World.setCell]; exact hB.size) _).alloc (by simp [World.setCell]; have := hB.size; omega) _).drew)⟩
      case measure => simp [intOf]
    | 4, _ =>
      go_wp2
      go_ret
      exact ⟨_, bs, rfl, hI.done, hB⟩
end Go.Proofs.Ytlpdemdakcjjjaa.W
