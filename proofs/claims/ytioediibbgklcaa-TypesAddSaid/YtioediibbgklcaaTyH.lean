/- counter.named: the item is looked for, and laid into a variable. -/
import Derived.Test.YtioediibbgklcaaTyG
namespace Go.Proofs.Ytioediibbgklcaa.W
open Go Go.RowKit Go.Proofs
set_option linter.unusedVariables false
set_option linter.unusedSimpArgs false
/-- It ends as it should. -/
def OnN (R : Act → World → Prop) (e : Exit) (a : Act) (w : World) : Prop := match e with
  | .normal => R a w
  | _ => False
theorem wp_onN {P : Program} {c : Code} {Q : Exit → Act → World → Prop} {R : Act → World → Prop} {a : Act} {w : World} (h : c.wp P (OnN R) a w) (hq : ∀ a w, R a w → Q .normal a w) : c.wp P Q a w :=
  Code.wp_mono (fun e a w h => by cases e <;> first | exact hq _ _ h | exact False.elim h) h
def findR (r : Nat) : Code → Option Code
  | .region n ops d => if n = r then some (.region n ops d) else none
  | .seq a b => match findR r a with
    | some c => some c
    | none => findR r b
  | .block _ c => findR r c
  | .scope c => findR r c
  | .loop c => findR r c
  | .cond _ a b => match findR r a with
    | some c => some c
    | none => findR r b
  | _ => none
noncomputable def code37_1 : Code := (Try.f37.body.bind (findR 1)).getD .skip
/-- What item told, laid into a block. -/
structure Put37 (W0 W : World) (o : Option It) (nb : Nat) (found : Bool) (w : World) : Prop where
  bel : Below W.heap.size W w
  ge : W.heap.size ≤ nb
  lt : nb < w.heap.size
  yes : ∀ it, o = some it → found = true ∧ ∃ cs, ItAt W0 cs it ∧ ∀ j, j < 20 → w.cell? ⟨nb, j, none⟩ = cs[j]?
  no : o = none → found = false
structure Hd (p : Prop) : Prop where
  out : p
theorem bel_1 {W w : World} (h : Below W.heap.size W w) : Below W.heap.size W w := h
theorem bel_2 {W w : World} (h : Below W.drew.heap.size W.drew w) : Below W.heap.size W w := ⟨h.os, h.tape, h.output, h.size, h.block⟩
theorem bel_3 {W w : World} {X : Obj} (h : Below (W.alloc X).heap.size (W.alloc X) w) : Below W.heap.size W w := ((Below.refl _ W).alloc (Nat.le_refl _) X).trans (h.mono (by simp))
theorem bel_4 {W w : World} {X : Obj} (h : Below (W.alloc X).drew.heap.size (W.alloc X).drew w) : Below W.heap.size W w := bel_3 (bel_2 h)
theorem put_37 {W0 W w3 wa : World} {o : Option It} {nb : Nat} {found : Bool} {A : Array Value} (hB : Below W.heap.size W w3) (hge : W.heap.size ≤ nb) (ha2 : w3.grownBy wa (some nb)) (hlt : nb < wa.heap.size) (ha1 : ∀ j, j < 20 → wa.cell? ⟨nb, j, none⟩ = A[j]?)
    (hyes : ∀ it, o = some it → found = true ∧ ∃ cs, A = cs.toArray ∧ ItAt W0 cs it) (hno : o = none → found = false) : Put37 W0 W o nb found wa := by
  refine ⟨hB.grown ha2 hB.size (fun g e => by injection e with e; omega), hge, hlt, fun it h => ?_, hno⟩
  obtain ⟨h1, cs, rfl, h2⟩ := hyes it h
  exact ⟨h1, cs, h2, fun j hj => by rw [ha1 j hj]; simp⟩
theorem below_dr {B : Nat} {a w : World} (h : Below B a w) : Below B a w.drew := ⟨h.os, h.tape, h.output, h.size, h.block⟩
theorem told_any {W0 : World} {o : Option It} {e : Ending} (h : Told W0 o e) : ∃ (A : Array Value) (found : Bool), e = .returned (.tuple #[.agg A, .bool found]) ∧ A.size = 20 ∧ (∀ v ∈ A.toList, v.oneCell' = true) ∧ (∀ it, o = some it → found = true ∧ ∃ cs, A = cs.toArray ∧ ItAt W0 cs it) ∧ (o = none → found = false) := by
  cases o with
  | some it =>
    obtain ⟨cs, h1, rfl⟩ := h.yes it rfl
    obtain ⟨h2, h3⟩ := h1.one
    exact ⟨cs.toArray, true, rfl, by simpa using h2, by simpa using h3, fun it' e => by injection e with e; subst e; exact ⟨rfl, cs, rfl, h1⟩, fun e => by cases e⟩
  | none =>
    obtain ⟨A, h1, h2, rfl⟩ := h.no rfl
    exact ⟨A, false, rfl, h1, h2, (fun it e => by cases e), fun _ => rfl⟩
theorem store_run {w : World} {b : Nat} {A : Array Value} {Z : Array Value} (hb : w.heap[b]? = some (.cells Z 35 (0, 0))) (hZ : Z.size = 20) (hs : A.size = 20) (h1 : ∀ v ∈ A.toList, v.oneCell' = true) :
    ∃ w', Sem.run Try.prog (storeCells ⟨b, 0, none⟩ A.toList) w = .ok () w' ∧ (∀ j, j < 20 → w'.cell? ⟨b, j, none⟩ = A[j]?) ∧ w.grownBy w' (some b) ∧ w'.heap.size = w.heap.size := by
  obtain ⟨z1, z2⟩ := row_there hb hZ
  have hc' : ∀ j, j < A.toList.length → (w.cell? ⟨b, 0 + 0 + j, none⟩).isSome = true := fun j hj => z1 j (by simpa [hs] using hj)
  have hf' : ∀ j, j < A.toList.length → w.frozen? ⟨b, 0 + 0 + j, none⟩ = false := fun j hj => z2 j (by simpa [hs] using hj)
  have hst := run_storeCells_cells (P := Try.prog) b 0 A.toList 0 w hc' hf' h1
  refine ⟨_, hst, fun j hj => ?_, ⟨World.os_setCells _ _ _ _, setCells_tape _ _ _ _, World.output_setCells _ _ _ _, by rw [setCells_size]; exact Nat.le_refl _, fun q hq hne => World.heap_setCells_other _ _ _ _ hq (fun e => hne (by rw [e]))⟩, setCells_size _ _ _ _⟩
  have := World.cell?_setCells_in b A.toList (0 + 0) w hc' j (by simpa [hs] using hj)
  simp only [Nat.zero_add] at this ⊢
  rw [this]
  simp [hs, hj]
set_option maxHeartbeats 100000000 in
set_option maxRecDepth 1000000 in
theorem region37_1 (u1 u2 u4 u5 u6 u7 u8 u9 u10 u11 u12 u13 u14 u15 u16 u17 u18 u19 u20 u21 u22 u23 u24 u25 u26 u27 u28 u29 u30 u31 u32 u33 u34 u35 u36 u37 u38 u39 u40 u41 u42 u43 u44 u45 u46 u47 u48 u49 u50 u51 u52 u53 u54 u55 u56 u57 u58 u59 u60 u61 u62 u63 u64 u65 u66 u67 u68 u69 u70 : Value) (cb tb : Nat) (W0 W : World) (la : Option Addr) (its : List It) (lc : Nat) (hn : its.length ≤ 9223372036854775807) (hI : ItsAt W0 la its) (l : Int) (bad : Bool) (hC : Cnt W0 cb (.slice la its.length lc) l bad W) (t : Ty) (ea : Option Addr) (el ec : Nat) (hT : W.heap[tb]? = some (.cells #[.int .i64 t.kind, .string t.name, .int .i64 t.n, .slice ea el ec] 26 (0, 0))) :
    Code.wp Try.prog code37_1 (OnN fun a w' => Hd (∃ (nb : Nat) (found : Bool), ∃ s14 s15 s16 s17 s18 s19 s20 s21 s22 : Value, a = ⟨#[.pointer (some ⟨cb, 0, none⟩), u1, u2, .pointer (some ⟨tb, 0, none⟩), u4, .pointer (some ⟨nb, 0, none⟩), .bool found, u7, u8, u9, u10, u11, u12, u13, s14, s15, s16, s17, s18, s19, s20, s21, s22, u23, u24, u25, u26, u27, u28, u29, u30, u31, u32, u33, u34, u35, u36, u37, u38, u39, u40, u41, u42, u43, u44, u45, u46, u47, u48, u49, u50, u51, u52, u53, u54, u55, u56, u57, u58, u59, u60, u61, u62, u63, u64, u65, u66, u67, u68, u69, u70], []⟩ ∧ Put37 W0 W (itemOf its t) nb found w')) ⟨#[.pointer (some ⟨cb, 0, none⟩), u1, u2, .pointer (some ⟨tb, 0, none⟩), u4, u5, u6, u7, u8, u9, u10, u11, u12, u13, u14, u15, u16, u17, u18, u19, u20, u21, u22, u23, u24, u25, u26, u27, u28, u29, u30, u31, u32, u33, u34, u35, u36, u37, u38, u39, u40, u41, u42, u43, u44, u45, u46, u47, u48, u49, u50, u51, u52, u53, u54, u55, u56, u57, u58, u59, u60, u61, u62, u63, u64, u65, u66, u67, u68, u69, u70], []⟩ W := by
  conv => arg 2; whnf
  obtain ⟨n, hnl⟩ : ∃ n, its.length = n := ⟨_, rfl⟩
  have hcall := fun X hb => item_calls W0 X hb la its lc hn hI t ea el ec
  rw [hnl] at hC hcall
  clear hnl
  obtain ⟨c0, _⟩ := hC.cells
  have c1 : W.cell? ⟨tb, 0, none⟩ = some (.int .i64 t.kind) := by rw [cell_of_row _ _ _ _ 26 (0, 0) hT]; rfl
  have c2 : W.cell? ⟨tb, 1, none⟩ = some (.string t.name) := by rw [cell_of_row _ _ _ _ 26 (0, 0) hT]; rfl
  have c3 : W.cell? ⟨tb, 2, none⟩ = some (.int .i64 t.n) := by rw [cell_of_row _ _ _ _ 26 (0, 0) hT]; rfl
  have c4 : W.cell? ⟨tb, 3, none⟩ = some (.slice ea el ec) := by rw [cell_of_row _ _ _ _ 26 (0, 0) hT]; rfl
  have hcl := hC.lt
  have htl : tb < W.heap.size := (Array.getElem?_eq_some_iff.1 hT).1
  have hbW := hC.bel
  have hbA : Below W0.heap.size W0 (W.alloc (.cells #[.int .i64 0, .string ⟨#[]⟩, .int .i64 0, .slice none 0 0, .slice none 0 0, .int .i64 0, .string ⟨#[]⟩, .int .i64 0, .slice none 0 0, .int .i64 0, .int .i64 0, .int .i64 0, .int .i64 0, .string ⟨#[]⟩, .slice none 0 0, .slice none 0 0, .int .i64 0, .string ⟨#[]⟩, .int .i64 0, .slice none 0 0] 35)) := hbW.alloc hbW.size _
  go_region_law (go_simp; go_at_call 24; refine (hcall _ (by first | exact hbW | exact hbA | exact below_dr hbW | exact below_dr hbA)).mono ?_; rintro e w3 ⟨hTd, hb3⟩; obtain ⟨A, found, rfl, hAs, hA1, hyes, hno⟩ := told_any hTd; first
    | (have hzB : w3.heap[W.heap.size]? = some (.cells #[.int .i64 0, .string ⟨#[]⟩, .int .i64 0, .slice none 0 0, .slice none 0 0, .int .i64 0, .string ⟨#[]⟩, .int .i64 0, .slice none 0 0, .int .i64 0, .int .i64 0, .int .i64 0, .int .i64 0, .string ⟨#[]⟩, .slice none 0 0, .slice none 0 0, .int .i64 0, .string ⟨#[]⟩, .int .i64 0, .slice none 0 0] 35 (0, 0)) := (hb3.block W.heap.size (by simp)).trans (heap_alloc_new W (.cells #[.int .i64 0, .string ⟨#[]⟩, .int .i64 0, .slice none 0 0, .slice none 0 0, .int .i64 0, .string ⟨#[]⟩, .int .i64 0, .slice none 0 0, .int .i64 0, .int .i64 0, .int .i64 0, .int .i64 0, .string ⟨#[]⟩, .slice none 0 0, .slice none 0 0, .int .i64 0, .string ⟨#[]⟩, .int .i64 0, .slice none 0 0] 35)); obtain ⟨wa, hsa, ha1, ha2, ha3⟩ := store_run hzB rfl hAs hA1)
    | (obtain ⟨wa, hsa, ha1, ha2, ha3⟩ := store_run (heap_alloc_new w3 (.cells #[.int .i64 0, .string ⟨#[]⟩, .int .i64 0, .slice none 0 0, .slice none 0 0, .int .i64 0, .string ⟨#[]⟩, .int .i64 0, .slice none 0 0, .int .i64 0, .int .i64 0, .int .i64 0, .int .i64 0, .string ⟨#[]⟩, .slice none 0 0, .slice none 0 0, .int .i64 0, .string ⟨#[]⟩, .int .i64 0, .slice none 0 0] 35)) rfl hAs hA1))
  all_goals
    unfold OnN
    refine ⟨?_⟩
    have hBX : Below W.heap.size W w3 := by first | exact bel_1 hb3 | exact bel_2 hb3 | exact bel_3 hb3 | exact bel_4 hb3
    first
      | (have kB := hzB
         refine ⟨W.heap.size, found, _, _, _, _, _, _, _, _, _, rfl, ?_⟩
         exact put_37 hBX (Nat.le_refl _) ha2 (by have := (Array.getElem?_eq_some_iff.1 hzB).1; omega) ha1 hyes hno)
      | (refine ⟨w3.heap.size, found, _, _, _, _, _, _, _, _, _, rfl, ?_⟩
         exact put_37 (hBX.alloc hBX.size _) hBX.size ha2 (by simp at ha3; omega) ha1 hyes hno)
end Go.Proofs.Ytioediibbgklcaa.W
