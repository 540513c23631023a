/- The document's Steps: the region that lays the steps anew, and one more. -/
import Derived.Test.YtbobnbndbgpanaaChD0
namespace Go.Proofs.Ytbobnbndbgpanaa.W
open Go Go.RowKit Go.Proofs
set_option linter.unusedVariables false
set_option linter.unusedSimpArgs false
/-- It ends as it should. -/
def OnN (R : Act → World → Prop) (e : Exit) (a : Act) (w : World) : Prop := match e with
  | .normal => R a w
  | _ => False
theorem wp_onN {P : Program} {c : Code} {Q : Exit → Act → World → Prop} {R : Act → World → Prop} {a : Act} {w : World} (h : c.wp P (OnN R) a w) (hq : ∀ a w, R a w → Q .normal a w) : c.wp P Q a w :=
  Code.wp_mono (fun e a w h => by cases e <;> first | exact hq _ _ h | exact False.elim h) h
def findR (r : Nat) : Code → Option Code
  | .region n ops d => if n = r then some (.region n ops d) else none
  | .seq a b => match findR r a with
    | some c => some c
    | none => findR r b
  | .block _ c => findR r c
  | .scope c => findR r c
  | .loop c => findR r c
  | .cond _ a b => match findR r a with
    | some c => some c
    | none => findR r b
  | _ => none
theorem below1 {W w w4 : World} {g : Nat} (h : Below W.heap.size W w) (hg : w.grownBy w4 (some g)) (hl : W.heap.size ≤ g) : Below W.heap.size W w4 := h.grown hg h.size (fun g' e => by injection e with e; omega)
theorem below2 {W w w4 : World} {v : Value} (h : Below W.heap.size W w) (hg : w.grownBy w4 v.ownBlock) (hl : ∀ g, v.ownBlock = some g → W.heap.size ≤ g) : Below W.heap.size W w4 := h.grown hg h.size hl
theorem own_empty2 (W : World) (e s : Nat) (X : Obj) : ((W.alloc X).alloc (.cells #[] e)).ownsRow (W.heap.size + 1) e s (.slice (some ⟨W.heap.size + 1, 0, none⟩) 0 0) 0 [] := by
  have := own_empty (W.alloc X) e s
  simpa using this
theorem arrA (W : World) (p q : Int) : (W.alloc (.cells #[.int .i64 p, .int .i64 q] 39)).cell? ⟨W.heap.size, 0, none⟩ = some (.int .i64 p) ∧ (W.alloc (.cells #[.int .i64 p, .int .i64 q] 39)).cell? ⟨W.heap.size, 1, none⟩ = some (.int .i64 q) := by
  constructor <;> (rw [cell_of_row _ _ _ _ 39 (0, 0) (heap_alloc_new W _)]; rfl)
theorem arrB (W : World) (p q : Int) : ((W.alloc (.cells #[] 39)).alloc (.cells #[.int .i64 p, .int .i64 q] 39)).cell? ⟨W.heap.size + 1, 0, none⟩ = some (.int .i64 p) ∧ ((W.alloc (.cells #[] 39)).alloc (.cells #[.int .i64 p, .int .i64 q] 39)).cell? ⟨W.heap.size + 1, 1, none⟩ = some (.int .i64 q) := by
  simp
theorem arrC (W : World) (p q : Int) : ((W.alloc (.cells #[.int .i64 p, .int .i64 q] 39)).alloc (.cells #[] 39)).cell? ⟨W.heap.size, 0, none⟩ = some (.int .i64 p) ∧ ((W.alloc (.cells #[.int .i64 p, .int .i64 q] 39)).alloc (.cells #[] 39)).cell? ⟨W.heap.size, 1, none⟩ = some (.int .i64 q) := by
  have := arrA W p q
  exact ⟨(World.cell?_alloc_past _ _ _ (by simp)).trans this.1, (World.cell?_alloc_past _ _ _ (by simp)).trans this.2⟩
noncomputable def code13 : Code := (Try.f8.body.bind (findR 13)).getD .skip
set_option maxHeartbeats 100000000 in
set_option maxRecDepth 1000000 in
theorem region13 (u0 u1 u2 u3 u4 u9 u10 u11 u12 u13 u14 u15 u16 u17 u18 u19 u20 u21 u22 u23 u24 u25 u26 u27 u28 u29 u30 u31 u32 u33 u34 u35 u36 u37 u38 u39 u40 u41 u42 u43 u44 u45 u46 u47 u48 u49 u50 u51 u52 u53 u54 u55 u56 u57 u58 u59 u60 u61 u62 u63 u64 u65 u66 u67 u68 u69 u70 u71 u72 u73 u74 u75 u76 u77 u78 : Value) (r : Int) (v : Value) (ok : Bool) (sb n B : Nat) (L : List (Int × Int)) (p q : Int) (W : World) (hO : W.ownsRow B 39 2 v n (flat L)) (hn : n ≤ 200) (s0 : W.cell? ⟨sb, 0, none⟩ = some (.int .i64 p)) (s1 : W.cell? ⟨sb, 1, none⟩ = some (.int .i64 q)) (hsb : sb < W.heap.size) :
    Code.wp Try.prog code13 (OnN fun a w' => ∃ v' s71 s72 s73 s74 s75 s76 s77 s78 : Value, a = ⟨#[u0, u1, .int .i64 r, v', .bool ok, .int .i64 r, v, .bool ok, .pointer (some ⟨sb, 0, none⟩), u9, u10, u11, u12, u13, u14, u15, u16, u17, u18, u19, u20, u21, u22, u23, u24, u25, u26, u27, u28, u29, u30, u31, u32, u33, u34, u35, u36, u37, u38, u39, u40, u41, u42, u43, u44, u45, u46, u47, u48, u49, u50, u51, u52, u53, u54, u55, u56, u57, u58, u59, u60, u61, u62, u63, u64, u65, u66, u67, u68, u69, u70, s71, s72, s73, s74, s75, s76, s77, s78], []⟩ ∧ w'.ownsRow W.heap.size 39 2 v' (n + 1) (flat L ++ [.int .i64 p, .int .i64 q]) ∧ Below W.heap.size W w') ⟨#[u0, u1, u2, u3, u4, .int .i64 r, v, .bool ok, .pointer (some ⟨sb, 0, none⟩), u9, u10, u11, u12, u13, u14, u15, u16, u17, u18, u19, u20, u21, u22, u23, u24, u25, u26, u27, u28, u29, u30, u31, u32, u33, u34, u35, u36, u37, u38, u39, u40, u41, u42, u43, u44, u45, u46, u47, u48, u49, u50, u51, u52, u53, u54, u55, u56, u57, u58, u59, u60, u61, u62, u63, u64, u65, u66, u67, u68, u69, u70, u71, u72, u73, u74, u75, u76, u77, u78], []⟩ W := by
  conv => arg 2; whnf
  obtain ⟨i0, hi, hz0, hz1, hz2⟩ := info_parts info39
  have HO := Lib.hid hO
  have ho1 := flat_one L
  clear hO
  have t0 : ∀ X, (W.alloc X).cell? ⟨sb, 0, none⟩ = some (.int .i64 p) := fun X => (World.cell?_alloc_past _ _ _ hsb).trans s0
  have t1 : ∀ X, (W.alloc X).cell? ⟨sb, 1, none⟩ = some (.int .i64 q) := fun X => (World.cell?_alloc_past _ _ _ hsb).trans s1
  go_region_law (first
    | (refine step_append_row rfl (.tmp 72) (.tmp 73) 35 rfl W.heap.size 39 i0 (.agg #[.int .i64 0, .int .i64 0]) 2 16 Try.underlying35 hi hz0 hz1 hz2 rfl (by decide) W.heap.size 0 0 [] (by simp [Act.eval, Act.put] <;> fail) (own_empty W 39 2) B v n (flat L) (by simp [Act.eval, Act.put] <;> fail) (HO.out.alloc _) ho1 (by unfold maxLen; omega) (by omega) (by simp <;> omega) ?_
       intro v1 w4 hown1 hgrow1
       have hb4 : Below W.heap.size W w4 := (by first | exact below1 ((Below.refl _ W).alloc (Nat.le_refl _) _) (grown_drew hgrow1) (by omega) | exact below1 ((Below.refl _ W).alloc (Nat.le_refl _) _) hgrow1 (by omega))
       have k0 : w4.cell? ⟨sb, 0, none⟩ = some (.int .i64 p) := (hb4.cell (p := ⟨sb, 0, none⟩) hsb).trans s0
       have k1 : w4.cell? ⟨sb, 1, none⟩ = some (.int .i64 q) := (hb4.cell (p := ⟨sb, 1, none⟩) hsb).trans s1)
    | (refine step_append_row rfl (.tmp 72) (.tmp 73) 35 rfl W.heap.size 39 i0 (.agg #[.int .i64 0, .int .i64 0]) 2 16 Try.underlying35 hi hz0 hz1 hz2 rfl (by decide) W.heap.size 0 0 [] (by simp [Act.eval, Act.put] <;> fail) ((own_empty W 39 2).alloc _) B v n (flat L) (by simp [Act.eval, Act.put] <;> fail) ((HO.out.alloc _).alloc _) ho1 (by unfold maxLen; omega) (by omega) (by simp <;> omega) ?_
       intro v1 w4 hown1 hgrow1
       have hb4 : Below W.heap.size W w4 := (by first | exact below1 (((Below.refl _ W).alloc (Nat.le_refl _) _).alloc (by simp) _) (grown_drew hgrow1) (by omega) | exact below1 (((Below.refl _ W).alloc (Nat.le_refl _) _).alloc (by simp) _) hgrow1 (by omega))
       have mB0 : w4.cell? ⟨W.heap.size + 1, 0, none⟩ = some (.int .i64 p) := (World.cell?_of_block (hgrow1.block (W.heap.size + 1) (by simp <;> omega) (by simp <;> omega))).trans (arrB W p q).1
       have mB1 : w4.cell? ⟨W.heap.size + 1, 1, none⟩ = some (.int .i64 q) := (World.cell?_of_block (hgrow1.block (W.heap.size + 1) (by simp <;> omega) (by simp <;> omega))).trans (arrB W p q).2)
    | (refine step_append_row rfl (.tmp 72) (.tmp 73) 35 rfl W.heap.size 39 i0 (.agg #[.int .i64 0, .int .i64 0]) 2 16 Try.underlying35 hi hz0 hz1 hz2 rfl (by decide) (W.heap.size + 1) 0 0 [] (by simp [Act.eval, Act.put] <;> fail) (own_base (own_empty2 W 39 2 _) (by simp)) B v n (flat L) (by simp [Act.eval, Act.put] <;> fail) ((HO.out.alloc _).alloc _) ho1 (by unfold maxLen; omega) (by omega) (by simp <;> omega) ?_
       intro v1 w4 hown1 hgrow1
       have hb4 : Below W.heap.size W w4 := (by first | exact below1 (((Below.refl _ W).alloc (Nat.le_refl _) _).alloc (by simp) _) (grown_drew hgrow1) (by omega) | exact below1 (((Below.refl _ W).alloc (Nat.le_refl _) _).alloc (by simp) _) hgrow1 (by omega))
       have mC0 : w4.cell? ⟨W.heap.size, 0, none⟩ = some (.int .i64 p) := (World.cell?_of_block (hgrow1.block (W.heap.size) (by simp <;> omega) (by simp <;> omega))).trans (arrC W p q).1
       have mC1 : w4.cell? ⟨W.heap.size, 1, none⟩ = some (.int .i64 q) := (World.cell?_of_block (hgrow1.block (W.heap.size) (by simp <;> omega) (by simp <;> omega))).trans (arrC W p q).2)
    | (have kA := k0
       refine step_append_own2 rfl (.tmp 74) (.tmp 76) 35 rfl W.heap.size 39 i0 (.agg #[.int .i64 0, .int .i64 0]) 2 16 Try.underlying35 hi hz0 hz1 hz2 rfl (by decide) v1 (0 + n) ([] ++ flat L) (by simp [Act.eval, Act.put] <;> fail) (hown1.alloc _) ⟨w4.heap.size, 0, none⟩ 1 1 [.int .i64 p, .int .i64 q] (by simp [Act.eval, Act.put] <;> fail) rfl (by intro j u hj; match j, hj with | 0, hj => simp at hj; subst hj; simp [Addr.add] | 1, hj => simp at hj; subst hj; simp [Addr.add]) (by intro u hu; simp at hu; rcases hu with rfl | rfl <;> rfl) (by unfold maxLen; omega) (by omega) (by have := hb4.size; simp; omega) ?_
       intro v2 w5 hown2 hgrow2 G2
       clear G2
       have hb5 : Below W.heap.size W w5 := (by first | exact below2 (hb4.alloc (by have := hb4.size; omega) _) (grown_drew hgrow2) (own_ge hown1) | exact below2 (hb4.alloc (by have := hb4.size; omega) _) hgrow2 (own_ge hown1)))
    | (have kB := mB0
       refine step_append_own2 rfl (.tmp 74) (.tmp 76) 35 rfl W.heap.size 39 i0 (.agg #[.int .i64 0, .int .i64 0]) 2 16 Try.underlying35 hi hz0 hz1 hz2 rfl (by decide) v1 (0 + n) ([] ++ flat L) (by simp [Act.eval, Act.put] <;> fail) hown1 ⟨W.heap.size + 1, 0, none⟩ 1 1 [.int .i64 p, .int .i64 q] (by simp [Act.eval, Act.put] <;> fail) rfl (by intro j u hj; match j, hj with | 0, hj => simp at hj; subst hj; simp [Addr.add, mB0, mB1] | 1, hj => simp at hj; subst hj; simp [Addr.add, mB0, mB1]) (by intro u hu; simp at hu; rcases hu with rfl | rfl <;> rfl) (by unfold maxLen; omega) (by omega) (by have := hb4.size; simp; omega) ?_
       intro v2 w5 hown2 hgrow2 G2
       clear G2
       have hb5 : Below W.heap.size W w5 := (by first | exact below2 hb4 (grown_drew hgrow2) (own_ge hown1) | exact below2 hb4 hgrow2 (own_ge hown1)))
    | (have kC := mC0
       refine step_append_own2 rfl (.tmp 74) (.tmp 76) 35 rfl W.heap.size 39 i0 (.agg #[.int .i64 0, .int .i64 0]) 2 16 Try.underlying35 hi hz0 hz1 hz2 rfl (by decide) v1 (0 + n) ([] ++ flat L) (by simp [Act.eval, Act.put] <;> fail) hown1 ⟨W.heap.size, 0, none⟩ 1 1 [.int .i64 p, .int .i64 q] (by simp [Act.eval, Act.put] <;> fail) rfl (by intro j u hj; match j, hj with | 0, hj => simp at hj; subst hj; simp [Addr.add, mC0, mC1] | 1, hj => simp at hj; subst hj; simp [Addr.add, mC0, mC1]) (by intro u hu; simp at hu; rcases hu with rfl | rfl <;> rfl) (by unfold maxLen; omega) (by omega) (by have := hb4.size; simp; omega) ?_
       intro v2 w5 hown2 hgrow2 G2
       clear G2
       have hb5 : Below W.heap.size W w5 := (by first | exact below2 hb4 (grown_drew hgrow2) (own_ge hown1) | exact below2 hb4 hgrow2 (own_ge hown1))))
  all_goals
    unfold OnN
    refine ⟨_, _, _, _, _, _, _, _, _, rfl, ?_, hb5⟩
    rw [Nat.zero_add, List.nil_append] at hown2
    exact hown2
end Go.Proofs.Ytbobnbndbgpanaa.W
