/- Great structs loaded and stored as one row, not cell by cell. -/
import Derived.Test.YtioediibbgklcaaTyB
import Derived.Laws.IdiomCopy
import Derived.Deep.Upon
namespace Go.Proofs.Ytioediibbgklcaa.W
open Go Go.RowKit Go.Proofs
set_option linter.unusedVariables false
set_option linter.unusedSimpArgs false
def aggD : TypeDesc → Bool
  | .struct _ => true
  | .array _ _ => true
  | _ => false
theorem agg_run {t : TypeId} {P : Program} {d : TypeDesc} (h : P.underlying t = some d) (hd : aggD d = true) (w : World) : (isAgg t).run P w = .ok true w := by
  unfold isAgg
  simp only [Sem.run_bind, run_underlying h, Result.andThen_ok]
  cases d <;> simp [aggD] at hd <;> rfl
theorem wpList_load_row {ops : Array Oper} {rest : List Oper} {o : Oper} {a : Act} {w : World} {Q : Exit → Act → World → Prop} (hg : o.guard = none) (t : TypeId) (x : Operand) (hop : o.op = Op.load t x) (k : Nat) (d : TypeDesc) (hu : Try.prog.underlying t = some d)
    (hd : aggD d = true) (i : TypeInfo) (hi : Try.prog.info? t = some i) (hk : i.size = k) (b f : Nat) (A : Array Value) (hx : a.eval x = .pointer (some ⟨b, f, none⟩))
    (hl : Sem.run Try.prog (loadCellsFrom ⟨b, f, none⟩ 0 k #[]) w = .ok A w) (h : wpList Try.prog ops Q rest (a.put o.dst (.agg A)) w) : wpList Try.prog ops Q (o :: rest) a w :=
  wpList_plain hg fun K hK => by
    have hr : (Instr.loadAt t (a.eval x)).run Try.prog w = .ok (.agg A) w := by
      rw [hx]
      simp [Instr.loadAt, Instr.sureAddr, loadVar, agg_run hu hd, sizeOf, typeInfo, hi, hk, loadCells, hl]
    unfold Oper.wp execOp
    simp only [hop, Sem.run_bind, Sem.run_pure, Result.andThen_ok, hr]
    exact hK _ _ h
/-- Stored as one. -/
structure Laid (b f : Nat) (A : Array Value) (w w' : World) : Prop where
  cells : ∀ j, j < A.size → w'.cell? ⟨b, f + j, none⟩ = A[j]?
  grown : w.grownBy w' (some b)
  size : w'.heap.size = w.heap.size
  froz : ∀ x, w'.frozen? x = w.frozen? x
theorem setCells_size (b : Nat) : ∀ (vs : List Value) (o : Nat) (w : World), (w.setCells b o vs).heap.size = w.heap.size
  | [], _, _ => rfl
  | v :: r, o, w => by rw [World.setCells, setCells_size b r]; simp [World.setCell]
theorem setCells_tape (b : Nat) : ∀ (vs : List Value) (o : Nat) (w : World), (w.setCells b o vs).tape = w.tape
  | [], _, _ => rfl
  | v :: r, o, w => by rw [World.setCells, setCells_tape b r]; rfl
theorem wpList_store_row {ops : Array Oper} {rest : List Oper} {o : Oper} {a : Act} {w : World} {Q : Exit → Act → World → Prop} (hg : o.guard = none) (t : TypeId) (x y : Operand) (hop : o.op = Op.store t x y) (k : Nat) (i : TypeInfo) (hi : Try.prog.info? t = some i) (hk : i.size = k)
    (b f : Nat) (A : Array Value) (hx : a.eval x = .pointer (some ⟨b, f, none⟩)) (hy : a.eval y = .agg A) (hs : A.size = k) (h1 : ∀ v ∈ A.toList, v.oneCell' = true)
    (hc : ∀ j, j < k → (w.cell? ⟨b, f + j, none⟩).isSome = true) (hf : ∀ j, j < k → w.frozen? ⟨b, f + j, none⟩ = false)
    (h : ∀ w', Laid b f A w w' → wpList Try.prog ops Q rest (a.put o.dst undef) w') : wpList Try.prog ops Q (o :: rest) a w :=
  wpList_plain hg fun K hK => by
    have hc' : ∀ j, j < A.toList.length → (w.cell? ⟨b, f + 0 + j, none⟩).isSome = true := fun j hj => hc j (by simpa [hs] using hj)
    have hf' : ∀ j, j < A.toList.length → w.frozen? ⟨b, f + 0 + j, none⟩ = false := fun j hj => hf j (by simpa [hs] using hj)
    have hst := run_storeCells_cells (P := Try.prog) b f A.toList 0 w hc' hf' h1
    have hr : (Instr.storeAt t (a.eval x) (a.eval y)).run Try.prog w = .ok () (w.setCells b (f + 0) A.toList) := by
      rw [hx, hy]
      simp [Instr.storeAt, Instr.sureAddr, storeVar, sizeOf, typeInfo, hi, hk, Value.cells, hs, hst]
    have hL : Laid b f A w (w.setCells b (f + 0) A.toList) := by
      refine ⟨fun j hj => ?_, ⟨World.os_setCells _ _ _ _, setCells_tape _ _ _ _, World.output_setCells _ _ _ _, by rw [setCells_size]; exact Nat.le_refl _, fun q hq hne => World.heap_setCells_other _ _ _ _ hq (fun e => hne (by rw [e]))⟩, setCells_size _ _ _ _, fun x => World.frozen?_setCells _ _ _ _ _⟩
      have := World.cell?_setCells_in b A.toList (f + 0) w hc' j (by simpa using hj)
      rw [Nat.add_zero] at this ⊢
      rw [this]
      simp [hj]
    unfold Oper.wp execOp
    simp only [hop, Sem.run_bind, Sem.run_pure, Result.andThen_ok, hr]
    exact hK _ _ (h _ hL)
theorem info35 : (Try.prog.info? 35).map (fun i => i.size) = some 20 := by kernel_rfl
theorem info_size {P : Program} {e : TypeId} {s : Nat} (h : (P.info? e).map (fun i => i.size) = some s) : ∃ i, P.info? e = some i ∧ i.size = s := by
  cases hi : P.info? e with
  | none => rw [hi] at h; simp at h
  | some i => rw [hi] at h; simp at h; exact ⟨i, rfl, h⟩
end Go.Proofs.Ytioediibbgklcaa.W
