/- BorrowOverlaps: both Overlaps answer alike; the law's walk. -/
import Derived.Test.YtbobnbndbgpanaaChH
import Derived.Deep.RegionHeld3
namespace Go.Proofs.Ytbobnbndbgpanaa.W
open Go Go.RowKit Go.Proofs
set_option linter.unusedVariables false
set_option linter.unusedSimpArgs false
/-- What an Overlap answers. -/
def ovB (la lb : List Nd) (f : Nd → Int × Int) (c : Int × Int → Int × Int → Bool) : Bool := match rootOf la, rootOf lb with
  | some (r, x), some (s, y) => (r == s) && agree c (x.map f) (y.map f)
  | _, _ => false
theorem Ov.tell {W : World} {la lb : List Nd} {f : Nd → Int × Int} {c : Int × Int → Int × Int → Bool} {e : Ending} {w' : World} (h : Ov W la lb f c e w') : e = .returned (.bool (ovB la lb f c)) ∧ Below W.heap.size W w' := by
  obtain ⟨r, s, ok, is, L, M, h1, h2, rfl, hb⟩ := h.out
  refine ⟨?_, hb⟩
  unfold Told at h1 h2
  unfold ovB
  cases e1 : rootOf la with
  | none => rw [e1] at h1; simp only at h1; subst h1; simp
  | some x =>
    rw [e1] at h1
    obtain ⟨rfl, rfl, rfl⟩ := h1
    cases e2 : rootOf lb with
    | none => rw [e2] at h2; simp only at h2; subst h2; simp
    | some y =>
      rw [e2] at h2
      obtain ⟨rfl, rfl, rfl⟩ := h2
      simp
theorem c_alike (a b : Nd) : cC (stC a) (stC b) = cR (stR a) (stR b) := by
  have h := part_iff a b
  rw [Bool.eq_iff_iff]
  simp only [cC, cR, Bool.and_eq_true, Bool.not_eq_true', Bool.and_eq_false_iff, beq_eq_false_iff_ne, beq_iff_eq, decide_eq_true_eq]
  constructor
  · intro ⟨h1, h2⟩
    have := h.1 ⟨fun e => by rcases h1 with h1 | h1 <;> exact h1 (by rw [e]), h2⟩
    exact ⟨⟨this.1, this.2.1⟩, this.2.2⟩
  · intro ⟨⟨h1, h2⟩, h3⟩
    have := h.2 ⟨h1, h2, h3⟩
    refine ⟨?_, this.2⟩
    by_cases q : (stC a).1 = (stC b).1
    · right
      intro q2
      exact this.1 (Prod.ext q q2)
    · exact .inl q
theorem agree_alike : ∀ (x y : List Nd), agree cC (x.map stC) (y.map stC) = agree cR (x.map stR) (y.map stR)
  | [], [] => rfl
  | [], _ :: _ => rfl
  | _ :: _, [] => rfl
  | a :: x, b :: y => by simp [agree, c_alike, agree_alike x y]
theorem ov_alike (la lb : List Nd) : ovB la lb stC cC = ovB la lb stR cR := by
  unfold ovB
  cases rootOf la <;> cases rootOf lb <;> simp [agree_alike]
/-- Both trees in their boxes. -/
structure Two (W : World) (fa fb : Nat) (ca cb : List Value) (X : World) : Prop where
  a : InBox W fa ca X
  b : InBox W fb cb X
theorem Two.keep {W X Y : World} {fa fb : Nat} {ca cb : List Value} (h : Two W fa fb ca cb X) (hb : Below X.heap.size X Y) : Two W fa fb ca cb Y := ⟨h.a.keep hb, h.b.keep hb⟩
theorem Two.drew {W X : World} {fa fb : Nat} {ca cb : List Value} (h : Two W fa fb ca cb X) : Two W fa fb ca cb X.drew := ⟨⟨h.a.at', below_drew h.a.bel, h.a.ge⟩, ⟨h.b.at', below_drew h.b.bel, h.b.ge⟩⟩
/-- A tree that came in. -/
structure Tr (W : World) (v : Value) (l : List Nd) : Prop where
  out : ∃ cs, v = .agg cs.toArray ∧ Ch W cs l
theorem c4 {W X : World} {fa fb : Nat} {ca cb : List Value} (hT : Two W fa fb ca cb X) {v1 v2 : Value} {l1 l2 : List Nd} (h1 : Tr W v1 l1) (h2 : Tr W v2 l2) (hl1 : l1.length ≤ 200) (hl2 : l2.length ≤ 200) :
    Calls Try.prog 4 #[v1, v2] X fun e X' => e = .returned (.bool (ovB l1 l2 stC cC)) ∧ Two W fa fb ca cb X' := by
  obtain ⟨c1, rfl, g1⟩ := h1.out
  obtain ⟨c2, rfl, g2⟩ := h2.out
  refine (overlap4 X c1 c2 l1 l2 (g1.keep hT.a.bel) (g2.keep hT.a.bel) hl1 hl2).mono ?_
  intro e X' h
  exact ⟨h.tell.1, hT.keep h.tell.2⟩
theorem c6 {W X : World} {fa fb : Nat} {ca cb : List Value} (hT : Two W fa fb ca cb X) {v1 v2 : Value} {l1 l2 : List Nd} (h1 : Tr W v1 l1) (h2 : Tr W v2 l2) (hl1 : l1.length ≤ 200) (hl2 : l2.length ≤ 200) :
    Calls Try.prog 6 #[v1, v2] X fun e X' => e = .returned (.bool (ovB l1 l2 stC cC)) ∧ Two W fa fb ca cb X' := by
  obtain ⟨c1, rfl, g1⟩ := h1.out
  obtain ⟨c2, rfl, g2⟩ := h2.out
  refine (overlap6 X c1 c2 l1 l2 (g1.keep hT.a.bel) (g2.keep hT.a.bel) hl1 hl2).mono ?_
  intro e X' h
  exact ⟨by rw [ov_alike]; exact h.tell.1, hT.keep h.tell.2⟩
theorem c5 {W X : World} {fa fb : Nat} {ca cb : List Value} (hT : Two W fa fb ca cb X) {v1 : Value} {l1 : List Nd} (h1 : Tr W v1 l1) {p : Nat} (hp : min (l1.length - 1) 200 = p) :
    Calls Try.prog 5 #[v1] X fun e X' => e = .returned (.int .i64 p) ∧ Two W fa fb ca cb X' := by
  subst hp
  obtain ⟨c1, rfl, g1⟩ := h1.out
  refine (far_calls X c1 l1 (g1.keep hT.a.bel)).mono ?_
  rintro e X' ⟨rfl, hb⟩
  exact ⟨rfl, hT.keep hb⟩
set_option maxHeartbeats 4000000 in
set_option maxRecDepth 100000 in
theorem overlaps_core (W : World) (ca cb : List Value) (la lb : List Nd) (ha : Ch W ca la) (hb : Ch W cb lb) :
    Calls Try.prog 3 #[.agg ca.toArray, .agg cb.toArray] W fun e w' => e = .returned (.bool true) ∧ Below W.heap.size W w' := by
  obtain ⟨x0, x2, x, xo, xn, xc, rfl⟩ := ha.form
  obtain ⟨y0, y2, y, yo, yn, yc, rfl⟩ := hb.form
  go_enter Try.func3, Try.ntmps3
  go_upto_region 1 with fail
  obtain ⟨w2, hw2, hA, hB⟩ := two_boxes W [.int .i64 x0, .int .i64 x.x1, .int .i64 x2, .string x.s3, .slice xo xn xc, .slice x.a5 x.n5 x.k5, .int .i64 x.x6, .string x.s7, .int .i64 x.x8, .slice x.a9 x.n9 x.k9] [.int .i64 y0, .int .i64 y.x1, .int .i64 y2, .string y.s3, .slice yo yn yc, .slice y.a5 y.n5 y.k5, .int .i64 y.x6, .string y.s7, .int .i64 y.x8, .slice y.a9 y.n9 y.k9]
  rw [hw2]
  clear hw2
  obtain ⟨fb, hfb⟩ : ∃ y, W.heap.size + 1 = y := ⟨_, rfl⟩
  rw [hfb] at hB
  rw [hfb]
  have hT : Two W W.heap.size fb _ _ w2 := ⟨hA, hB⟩
  clear hA hB
  go_upto_region 2 with fail
  have hT3 := hT.keep ((Below.refl w2.heap.size w2).alloc (Nat.le_refl _) (.cells #[.int .i64 4, .int .i64 0, .int .i64 3, .string ⟨#[]⟩, .slice none 0 0, .slice none 0 0, .int .i64 0, .string ⟨#[]⟩, .int .i64 0, .slice none 0 0] 27))
  have hX : InBox W w2.heap.size [.int .i64 4, .int .i64 0, .int .i64 3, .string ⟨#[]⟩, .slice none 0 0, .slice none 0 0, .int .i64 0, .string ⟨#[]⟩, .int .i64 0, .slice none 0 0] (w2.alloc (.cells #[.int .i64 4, .int .i64 0, .int .i64 3, .string ⟨#[]⟩, .slice none 0 0, .slice none 0 0, .int .i64 0, .string ⟨#[]⟩, .int .i64 0, .slice none 0 0] 27)) := ⟨heap_alloc_new w2 _, hT3.a.bel, hT.a.bel.size⟩
  obtain ⟨w3, hw3⟩ : ∃ y, w2.alloc (.cells #[.int .i64 4, .int .i64 0, .int .i64 3, .string ⟨#[]⟩, .slice none 0 0, .slice none 0 0, .int .i64 0, .string ⟨#[]⟩, .int .i64 0, .slice none 0 0] 27) = y := ⟨_, rfl⟩
  rw [hw3] at hT3 hX ⊢
  obtain ⟨a0, a1, a2, a3, a4, a5, a6, a7, a8, a9⟩ := hX.cells
  have hcx : ∀ w, Ch w [.int .i64 4, .int .i64 0, .int .i64 3, .string ⟨#[]⟩, .slice none 0 0, .slice none 0 0, .int .i64 0, .string ⟨#[]⟩, .int .i64 0, .slice none 0 0] [⟨4, 3, 0, 0, 0⟩] := fun w => .last 4 3 ⟨0, ⟨#[]⟩, none, 0, 0, 0, ⟨#[]⟩, 0, none, 0, 0⟩ none 0
  clear hw3 hT
  have hov : ovB [⟨4, 3, 0, 0, 0⟩] [⟨4, 3, 0, 0, 0⟩] stC cC = true := by decide
  go_upto_region 4 with (go_at_call 4; refine (overlap4 _ _ _ _ _ (hcx _) (hcx _) (by simp) (by simp)).mono ?_; intro e w4 ho; have ho2 := ho.tell; rw [hov] at ho2; obtain ⟨rfl, hb4⟩ := ho2)
  have hT4 := hT3.keep hb4
  clear ho hov hcx hX hT3 a0 a1 a2 a3 a4 a5 a6 a7 a8 a9 hb4
  obtain ⟨a0, a1, a2, a3, a4, a5, a6, a7, a8, a9⟩ := hT4.a.cells
  obtain ⟨b0, b1, b2, b3, b4, b5, b6, b7, b8, b9⟩ := hT4.b.cells
  have tra : Tr W (.agg #[.int .i64 x0, .int .i64 x.x1, .int .i64 x2, .string x.s3, .slice xo xn xc, .slice x.a5 x.n5 x.k5, .int .i64 x.x6, .string x.s7, .int .i64 x.x8, .slice x.a9 x.n9 x.k9]) la := ⟨_, rfl, ha⟩
  have trb : Tr W (.agg #[.int .i64 y0, .int .i64 y.x1, .int .i64 y2, .string y.s3, .slice yo yn yc, .slice y.a5 y.n5 y.k5, .int .i64 y.x6, .string y.s7, .int .i64 y.x8, .slice y.a9 y.n9 y.k9]) lb := ⟨_, rfl, hb⟩
  obtain ⟨p, hp⟩ : ∃ p, min (la.length - 1) 200 = p := ⟨_, rfl⟩
  obtain ⟨q, hq⟩ : ∃ q, min (lb.length - 1) 200 = q := ⟨_, rfl⟩
  have hp2 : p ≤ 200 := by omega
  have hq2 : q ≤ 200 := by omega
  have HP := Lib.hid hp
  have HQ := Lib.hid hq
  clear hp hq
  go_upto_if 18 with (first
    | (go_at_call_of 5 (Value.agg #[.int .i64 x0, .int .i64 x.x1, .int .i64 x2, .string x.s3, .slice xo xn xc, .slice x.a5 x.n5 x.k5, .int .i64 x.x6, .string x.s7, .int .i64 x.x8, .slice x.a9 x.n9 x.k9]); refine (c5 hT4 tra HP.out).mono ?_; rintro e w5 ⟨rfl, hT5⟩; obtain ⟨d0, d1, d2, d3, d4, d5, d6, d7, d8, d9⟩ := hT5.b.cells)
    | (go_at_call_of 5 (Value.agg #[.int .i64 y0, .int .i64 y.x1, .int .i64 y2, .string y.s3, .slice yo yn yc, .slice y.a5 y.n5 y.k5, .int .i64 y.x6, .string y.s7, .int .i64 y.x8, .slice y.a9 y.n9 y.k9]); refine (c5 hT5 trb HQ.out).mono ?_; rintro e w6 ⟨rfl, hT6⟩))
  · by_cases hq3 : q < 200
    · have hla : la.length ≤ 200 := by have := HP.out; omega
      have hlb : lb.length ≤ 200 := by have := HQ.out; omega
      go_upto_region 6 with fail
      have hSof : ∀ X, Two W W.heap.size fb [.int .i64 x0, .int .i64 x.x1, .int .i64 x2, .string x.s3, .slice xo xn xc, .slice x.a5 x.n5 x.k5, .int .i64 x.x6, .string x.s7, .int .i64 x.x8, .slice x.a9 x.n9 x.k9] [.int .i64 y0, .int .i64 y.x1, .int .i64 y2, .string y.s3, .slice yo yn yc, .slice y.a5 y.n5 y.k5, .int .i64 y.x6, .string y.s7, .int .i64 y.x8, .slice y.a9 y.n9 y.k9] X → (X.cell? ⟨W.heap.size, 0, none⟩ = some (.int .i64 x0) ∧ X.cell? ⟨W.heap.size, 1, none⟩ = some (.int .i64 x.x1) ∧ X.cell? ⟨W.heap.size, 2, none⟩ = some (.int .i64 x2) ∧ X.cell? ⟨W.heap.size, 3, none⟩ = some (.string x.s3) ∧ X.cell? ⟨W.heap.size, 4, none⟩ = some (.slice xo xn xc) ∧ X.cell? ⟨W.heap.size, 5, none⟩ = some (.slice x.a5 x.n5 x.k5) ∧ X.cell? ⟨W.heap.size, 6, none⟩ = some (.int .i64 x.x6) ∧ X.cell? ⟨W.heap.size, 7, none⟩ = some (.string x.s7) ∧ X.cell? ⟨W.heap.size, 8, none⟩ = some (.int .i64 x.x8) ∧ X.cell? ⟨W.heap.size, 9, none⟩ = some (.slice x.a9 x.n9 x.k9) ∧ X.cell? ⟨fb, 0, none⟩ = some (.int .i64 y0) ∧ X.cell? ⟨fb, 1, none⟩ = some (.int .i64 y.x1) ∧ X.cell? ⟨fb, 2, none⟩ = some (.int .i64 y2) ∧ X.cell? ⟨fb, 3, none⟩ = some (.string y.s3) ∧ X.cell? ⟨fb, 4, none⟩ = some (.slice yo yn yc) ∧ X.cell? ⟨fb, 5, none⟩ = some (.slice y.a5 y.n5 y.k5) ∧ X.cell? ⟨fb, 6, none⟩ = some (.int .i64 y.x6) ∧ X.cell? ⟨fb, 7, none⟩ = some (.string y.s7) ∧ X.cell? ⟨fb, 8, none⟩ = some (.int .i64 y.x8) ∧ X.cell? ⟨fb, 9, none⟩ = some (.slice y.a9 y.n9 y.k9)) := fun X h => by
        obtain ⟨r0, r1, r2, r3, r4, r5, r6, r7, r8, r9⟩ := h.a.cells
        obtain ⟨t0, t1, t2, t3, t4, t5, t6, t7, t8, t9⟩ := h.b.cells
        exact ⟨r0, r1, r2, r3, r4, r5, r6, r7, r8, r9, t0, t1, t2, t3, t4, t5, t6, t7, t8, t9⟩
      have hT' := hT6.drew
      clear a0 a1 a2 a3 a4 a5 a6 a7 a8 a9 b0 b1 b2 b3 b4 b5 b6 b7 b8 b9 d0 d1 d2 d3 d4 d5 d6 d7 d8 d9
      go_region_held3 (fun X => X.cell? ⟨W.heap.size, 0, none⟩ = some (.int .i64 x0) ∧ X.cell? ⟨W.heap.size, 1, none⟩ = some (.int .i64 x.x1) ∧ X.cell? ⟨W.heap.size, 2, none⟩ = some (.int .i64 x2) ∧ X.cell? ⟨W.heap.size, 3, none⟩ = some (.string x.s3) ∧ X.cell? ⟨W.heap.size, 4, none⟩ = some (.slice xo xn xc) ∧ X.cell? ⟨W.heap.size, 5, none⟩ = some (.slice x.a5 x.n5 x.k5) ∧ X.cell? ⟨W.heap.size, 6, none⟩ = some (.int .i64 x.x6) ∧ X.cell? ⟨W.heap.size, 7, none⟩ = some (.string x.s7) ∧ X.cell? ⟨W.heap.size, 8, none⟩ = some (.int .i64 x.x8) ∧ X.cell? ⟨W.heap.size, 9, none⟩ = some (.slice x.a9 x.n9 x.k9) ∧ X.cell? ⟨fb, 0, none⟩ = some (.int .i64 y0) ∧ X.cell? ⟨fb, 1, none⟩ = some (.int .i64 y.x1) ∧ X.cell? ⟨fb, 2, none⟩ = some (.int .i64 y2) ∧ X.cell? ⟨fb, 3, none⟩ = some (.string y.s3) ∧ X.cell? ⟨fb, 4, none⟩ = some (.slice yo yn yc) ∧ X.cell? ⟨fb, 5, none⟩ = some (.slice y.a5 y.n5 y.k5) ∧ X.cell? ⟨fb, 6, none⟩ = some (.int .i64 y.x6) ∧ X.cell? ⟨fb, 7, none⟩ = some (.string y.s7) ∧ X.cell? ⟨fb, 8, none⟩ = some (.int .i64 y.x8) ∧ X.cell? ⟨fb, 9, none⟩ = some (.slice y.a9 y.n9 y.k9)) (first | exact hSof _ hT') (first
        | (go_at_call 4; refine (c4 hT' (by first | exact tra | exact trb) (by first | exact tra | exact trb) (by first | exact hla | exact hlb) (by first | exact hla | exact hlb)).mono ?_; rintro e w8 ⟨rfl, hT'⟩)
        | (go_at_call 6; refine (c6 hT' (by first | exact tra | exact trb) (by first | exact tra | exact trb) (by first | exact hla | exact hlb) (by first | exact hla | exact hlb)).mono ?_; rintro e w8 ⟨rfl, hT'⟩))
      all_goals
        go_wp2
        exact bodyPost_ret (v := .bool true) (by simp [results, Try.results3, go_sem]) rfl ⟨rfl, hT'.a.bel⟩
    · go_wp2
      exact bodyPost_ret (v := .bool true) (by simp [results, Try.results3, go_sem]) rfl ⟨rfl, hT6.a.bel⟩
  · go_wp2
    exact bodyPost_ret (v := .bool true) (by simp [results, Try.results3, go_sem]) rfl ⟨rfl, hT5.a.bel⟩
end Go.Proofs.Ytbobnbndbgpanaa.W
