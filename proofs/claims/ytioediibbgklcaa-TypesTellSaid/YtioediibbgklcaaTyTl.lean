/- TypesTell: the walk of the law. -/
import Derived.Test.YtioediibbgklcaaTyRf
import Derived.Deep.RegionHeld3
namespace Go.Proofs.Ytioediibbgklcaa.W
open Go Go.RowKit Go.Proofs
set_option linter.unusedVariables false
set_option linter.unusedSimpArgs false
def zeroT : Ty := .mk 0 nil0 0 []
theorem zeroT_at (W : World) : TyAt W (cells4of zeroT none 0) zeroT := .mk 0 nil0 0 none 0 [] (by simp) 0 0 (fun _ _ => .bool false) (by simp) (by simp) (by simp)
/-- A field's answer, found or not. -/
def fI : Option (Nat × Ty × Nat) → Nat × Ty × Nat × Bool
  | some (i, f, a) => (i, f, a, true)
  | none => (0, zeroT, 0, false)
structure FieldU (W0 : World) (i : Nat) (f : Ty) (a : Nat) (b : Bool) (e : Ending) : Prop where
  ex : ∃ fa fc, e = .returned (.tuple #[.int .i64 (i : Nat), .agg (cells4of f fa fc).toArray, .int .i64 (a : Nat), .bool b]) ∧ TyAt W0 (cells4of f fa fc) f
theorem FieldT.all {W0 : World} {o : Option (Nat × Ty × Nat)} {e : Ending} (h : FieldT W0 o e) {i : Nat} {f : Ty} {a : Nat} {b : Bool} (hq : fI o = (i, f, a, b)) : FieldU W0 i f a b e := by
  cases o with
  | none =>
    simp only [fI, Prod.mk.injEq] at hq
    obtain ⟨rfl, rfl, rfl, rfl⟩ := hq
    exact ⟨none, 0, h.no rfl, zeroT_at W0⟩
  | some p =>
    obtain ⟨x, y, z⟩ := p
    simp only [fI, Prod.mk.injEq] at hq
    obtain ⟨rfl, rfl, rfl, rfl⟩ := hq
    obtain ⟨fa, fc, h1, h2⟩ := h.yes _ _ _ rfl
    exact ⟨fa, fc, h1, h2⟩
/-- A variant's answer, found or not. -/
def vI : Option (Nat × List Ty) → Nat × List Ty × Bool
  | some (i, ts) => (i, ts, true)
  | none => (0, [], false)
structure VarU (W0 w : World) (i : Nat) (ts : List Ty) (b : Bool) (e : Ending) : Prop where
  ex : ∃ ra rc, e = .returned (.tuple #[.int .i64 (i : Nat), .slice ra ts.length rc, .bool b]) ∧ ∀ (i : Nat) t, ts[i]? = some t → ∃ b o a c, ra = some ⟨b, o, none⟩ ∧ w.cell? ⟨b, o + i * 4, none⟩ = some (.int .i64 t.kind) ∧ w.cell? ⟨b, o + i * 4 + 1, none⟩ = some (.string t.name) ∧ w.cell? ⟨b, o + i * 4 + 2, none⟩ = some (.int .i64 t.n) ∧ w.cell? ⟨b, o + i * 4 + 3, none⟩ = some (.slice a t.el.length c) ∧ TyAt W0 (cells4of t a c) t
theorem VarR.all {W0 w : World} {o : Option (Nat × List Ty)} {e : Ending} (h : VarR W0 w o e) {i : Nat} {ts : List Ty} {b : Bool} (hq : vI o = (i, ts, b)) : VarU W0 w i ts b e := by
  cases o with
  | none =>
    simp only [vI, Prod.mk.injEq] at hq
    obtain ⟨rfl, rfl, rfl⟩ := hq
    exact ⟨none, 0, h.no rfl, fun i t h => by simp at h⟩
  | some p =>
    obtain ⟨x, y⟩ := p
    simp only [vI, Prod.mk.injEq] at hq
    obtain ⟨rfl, rfl, rfl⟩ := hq
    obtain ⟨v, h1, h2⟩ := h.yes _ _ rfl
    obtain ⟨ra, rc, rfl, h3⟩ := h2.ex
    exact ⟨ra, rc, h1, h3⟩
theorem variant_len {its : List It} (hF : FewOf its) {t : Ty} {s : ByteArray} {i : Nat} {ts : List Ty} {b : Bool} (hq : vI (variantT its t s) = (i, ts, b)) : ts.length < 300 := by
  cases ho : variantT its t s with
  | none => rw [ho] at hq; simp only [vI, Prod.mk.injEq] at hq; obtain ⟨_, rfl, _⟩ := hq; simp
  | some p =>
    rw [ho] at hq
    obtain ⟨x, y⟩ := p
    simp only [vI, Prod.mk.injEq] at hq
    obtain ⟨rfl, rfl, rfl⟩ := hq
    unfold variantT at ho
    split at ho
    · cases ho
    · rename_i it hio
      split at ho
      · split at ho
        · cases ho
        · rename_i k hk
          simp only [Option.some.injEq, Prod.mk.injEq] at ho
          obtain ⟨rfl, rfl⟩ := ho
          rw [itemOf_eq] at hio
          split at hio
          · obtain ⟨q, hq⟩ := List.getElem?_of_mem (List.mem_of_find?_eq_some hio)
            obtain ⟨hl, _⟩ := List.findIdx?_eq_some_iff_getElem.1 hk
            have hv := List.getElem?_eq_getElem hl
            rw [hv]
            exact (hF.each q it hq).each _ _ hv
          · cases hio
      · cases ho
set_option maxHeartbeats 16000000 in
set_option maxRecDepth 100000 in
theorem tell_walk (W : World) (la : Option Addr) (its : List It) (lc : Nat) (hn : its.length ≤ 140737488351232) (hI : ItsAt W la its) (hS : ∀ (i : Nat) it, its[i]? = some it → Small it) (t : Ty) (ea : Option Addr) (ec : Nat) (hT : TyAt W (cells4of t ea ec) t) (s : ByteArray) :
    Calls Try.prog 6 #[.slice la its.length lc, .agg (cells4of t ea ec).toArray, .string s] W fun e w' => e = .returned (.bool true) ∧ Below W.heap.size W w' := by
  have hn' : its.length ≤ 9223372036854775807 := Nat.le_trans hn (by omega)
  have hfew := fun X hX => few_calls W X hX la its lc hn hI hS
  have hwords := fun X hX => words_calls W X hX la its lc hn' hI t ea ec hT
  have hcopy := fun X hX => copy_calls W X hX la its lc hn' hI t ea ec hT
  have hrwords := fun X hX hF => refwords_calls W X hX la its lc hn' hI hF t ea ec hT
  have hrcopy := fun X hX hF => refcopy_calls W X hX la its lc hn' hI hF t ea ec hT
  have hfield := fun X hX hF => field_calls W X hX la its lc hn' hI hF t ea t.el.length ec s
  have hrfield := fun X hX hF => reffield_calls W X hX la its lc hn' hI hF t ea t.el.length ec s
  have hvar := fun X hX hF => variant2_calls W X hX la its lc hn' hI t ea t.el.length ec s hF
  have hrvar := fun X hX => refvariant_calls W X hX la its lc hn' hI t ea t.el.length ec s
  have hfind := fun X hX q => tfind_calls W X hX la its lc hn' hI q s
  have hrfind := fun X hX q => rfind_calls W X hX la its lc hn' hI q s
  obtain ⟨nn, hnl⟩ : ∃ nn, its.length = nn := ⟨_, rfl⟩
  rw [hnl] at hfew hwords hcopy hrwords hrcopy hfield hrfield hvar hrvar hfind hrfind ⊢
  have HNN := Lib.hid hnl
  clear hnl
  go_enter Try.func6, Try.ntmps6
  go_upto_region 1 with fail
  have hb1 : Below W.heap.size W (W.alloc (.cells (cells4of t ea ec).toArray 26)) := (Below.refl _ _).alloc (Nat.le_refl _) _
  have hT1 := heap_alloc_new W (.cells (cells4of t ea ec).toArray 26)
  show Code.wp Try.prog _ _ _ (W.alloc (.cells (cells4of t ea ec).toArray 26))
  obtain ⟨w1, hw1⟩ : ∃ y, W.alloc (.cells (cells4of t ea ec).toArray 26) = y := ⟨_, rfl⟩
  rw [hw1] at hb1 hT1 ⊢
  have hE : ∀ X, Below w1.heap.size w1 X → X.cell? ⟨W.heap.size, 0, none⟩ = some (.int .i64 t.kind) ∧ X.cell? ⟨W.heap.size, 1, none⟩ = some (.string t.name) ∧ X.cell? ⟨W.heap.size, 2, none⟩ = some (.int .i64 t.n) ∧ X.cell? ⟨W.heap.size, 3, none⟩ = some (.slice ea t.el.length ec) := fun X hX => by
    have h := (hX.block W.heap.size (Array.getElem?_eq_some_iff.1 hT1).1).trans hT1
    exact ⟨by rw [cell_of_row _ _ _ _ 26 (0, 0) h]; rfl, by rw [cell_of_row _ _ _ _ 26 (0, 0) h]; rfl, by rw [cell_of_row _ _ _ _ 26 (0, 0) h]; rfl, by rw [cell_of_row _ _ _ _ 26 (0, 0) h]; rfl⟩
  have hW : ∀ X, Below w1.heap.size w1 X → Below W.heap.size W X := fun X hX => hb1.trans (hX.mono hb1.size)
  have hf1 := hfew w1 hb1
  have HE := Lib.hid hE
  clear hw1 hfew hT1 hE
  go_upto_if 29 with (go_at_call 8; refine hf1.mono ?_; rintro e w2 ⟨hFT, hb2⟩; obtain ⟨fw, rfl, hFw⟩ := hFT.ex)
  cases fw with
  | false =>
    go_wp2
    exact bodyPost_ret (v := .bool true) (by simp [results, Try.results6, go_sem]) rfl ⟨rfl, hW _ hb2⟩
  | true =>
    have hF := hFw rfl
    clear hFw hFT hf1
    obtain ⟨oa, hoa⟩ : ∃ oa, wordsS its t = oa := ⟨_, rfl⟩
    obtain ⟨A0, hA0⟩ : ∃ A0, oa.getD 0 = A0 := ⟨_, rfl⟩
    obtain ⟨k0, hk0⟩ : ∃ k0, oa.isSome = k0 := ⟨_, rfl⟩
    go_upto_region 3 with fail
    go_cut [7, 8] (fun av ov wx => av = .int .i64 ((A0 : Nat) : Int) ∧ ov = .bool k0 ∧ Below w1.heap.size w1 wx)
    case first =>
      obtain ⟨e0, e1, e2, e3⟩ := HE.out w2 hb2
      have hc := hwords w2 (hW _ hb2)
      rw [hoa, wordsV_eq, hA0, hk0] at hc
      go_wp2_with (go_at_call 7; refine hc.mono ?_; rintro e w4 ⟨rfl, hb4⟩)
      go_meet
      exact ⟨rfl, rfl, hb2.trans (hb4.mono hb2.size)⟩
    case rest =>
      obtain ⟨rfl, rfl, hB3⟩ := hcut
      clear hb2 w2 hwords
      obtain ⟨w3, hw3⟩ : ∃ y, wc = y := ⟨_, rfl⟩
      rw [hw3] at hB3 ⊢
      clear hw3 wc
      go_upto_region 4 with fail
      go_cut [9, 10] (fun av ov wx => av = .int .i64 ((A0 : Nat) : Int) ∧ ov = .bool k0 ∧ Below w1.heap.size w1 wx)
      case first =>
        obtain ⟨e0, e1, e2, e3⟩ := HE.out w3 hB3
        have hc := hrwords w3 (hW _ hB3) hF
        rw [hoa, wordsV_eq, hA0, hk0] at hc
        have hc : Calls Try.prog 15 #[.slice la nn lc, .agg #[.int .i64 t.kind, .string t.name, .int .i64 t.n, .slice ea t.el.length ec]] w3 _ := hc
        go_wp2_with (go_at_call 15; refine hc.mono ?_; rintro e w4 ⟨rfl, hb4⟩)
        go_meet
        exact ⟨rfl, rfl, hB3.trans (hb4.mono hB3.size)⟩
      case rest =>
        obtain ⟨rfl, rfl, hB4⟩ := hcut
        clear hB3 w3 hrwords hoa hA0 hk0
        obtain ⟨w4, hw4⟩ : ∃ y, wc = y := ⟨_, rfl⟩
        rw [hw4] at hB4 ⊢
        clear hw4 wc
        obtain ⟨⟨xi, xf, xa, xb⟩, hxq⟩ : ∃ q, fI (fieldS its t s) = q := ⟨_, rfl⟩
        obtain ⟨j0, hj0, hj1⟩ := info_size info26s
        obtain ⟨e0, e1, e2, e3⟩ := HE.out w4 hB4
        have hc5 := hfield w4 (hW _ hB4) hF
        go_upto_region 6 with (first
          | (go_at_call 12; refine hc5.mono ?_; rintro e w5 ⟨hFT, hb5⟩; obtain ⟨ga, gc, rfl, hTf⟩ := (hFT.all hxq).ex)
          | (refine wpList_store_row rfl 26 (.tmp 12) (.tmp 48) rfl 4 j0 hj0 hj1 (w5.heap.size) 0 (cells4of xf ga gc).toArray rfl rfl rfl (fun v hv => cells4_one xf ga gc v (by simpa using hv)) (zero_there4 w5).1 (zero_there4 w5).2 ?_; intro w6 hL))
        have hB5 := hB4.trans (hb5.mono hB4.size)
        have hB6 : Below w1.heap.size w1 w6 := below_laid (hB5.alloc hB5.size _) hL hB5.size (by have := hB5.size; simp; omega)
        have q0 : w6.cell? ⟨w5.heap.size, 0, none⟩ = some (.int .i64 xf.kind) := hL.cells 0 (by simp)
        have q1 : w6.cell? ⟨w5.heap.size, 1, none⟩ = some (.string xf.name) := hL.cells 1 (by simp)
        have q2 : w6.cell? ⟨w5.heap.size, 2, none⟩ = some (.int .i64 xf.n) := hL.cells 2 (by simp)
        have q3 : w6.cell? ⟨w5.heap.size, 3, none⟩ = some (.slice ga xf.el.length gc) := hL.cells 3 (by simp)
        obtain ⟨fb, hfb⟩ : ∃ fb, w5.heap.size = fb := ⟨_, rfl⟩
        rw [hfb] at q0 q1 q2 q3 ⊢
        clear hL hfb hb5 hB5 hc5 hFT e0 e1 e2 e3 hB4 w4
        obtain ⟨e0, e1, e2, e3⟩ := HE.out w6 hB6
        have hc6 := hrfield w6 (hW _ hB6) hF
        go_upto_region 7 with (first
          | (go_at_call 16; refine hc6.mono ?_; rintro e w7 ⟨hFT, hb7⟩; obtain ⟨ha, hc, rfl, hTg⟩ := (hFT.all hxq).ex)
          | (refine wpList_store_row rfl 26 (.tmp 16) (.tmp 57) rfl 4 j0 hj0 hj1 (w7.heap.size) 0 (cells4of xf ha hc).toArray rfl rfl rfl (fun v hv => cells4_one xf ha hc v (by simpa using hv)) (zero_there4 w7).1 (zero_there4 w7).2 ?_; intro w8 hL))
        have hB7 := hB6.trans (hb7.mono hB6.size)
        have hB8 : Below w1.heap.size w1 w8 := below_laid (hB7.alloc hB7.size _) hL hB7.size (by have := hB7.size; simp; omega)
        have hq8 : Below w6.heap.size w6 w8 := below_laid (hb7.alloc hb7.size _) hL hb7.size (by have := hb7.size; simp; omega)
        have r0 : w8.cell? ⟨w7.heap.size, 0, none⟩ = some (.int .i64 xf.kind) := hL.cells 0 (by simp)
        have r1 : w8.cell? ⟨w7.heap.size, 1, none⟩ = some (.string xf.name) := hL.cells 1 (by simp)
        have r2 : w8.cell? ⟨w7.heap.size, 2, none⟩ = some (.int .i64 xf.n) := hL.cells 2 (by simp)
        have r3 : w8.cell? ⟨w7.heap.size, 3, none⟩ = some (.slice ha xf.el.length hc) := hL.cells 3 (by simp)
        obtain ⟨gb, hgb⟩ : ∃ gb, w7.heap.size = gb := ⟨_, rfl⟩
        rw [hgb] at r0 r1 r2 r3 ⊢
        clear hL hgb hb7 hB7 hc6 hFT e0 e1 e2 e3 hB6
        have hQ : ∀ X, Below w8.heap.size w8 X → ((X.cell? ⟨W.heap.size, 0, none⟩ = some (.int .i64 t.kind) ∧ X.cell? ⟨W.heap.size, 1, none⟩ = some (.string t.name) ∧ X.cell? ⟨W.heap.size, 2, none⟩ = some (.int .i64 t.n) ∧ X.cell? ⟨W.heap.size, 3, none⟩ = some (.slice ea t.el.length ec)) ∧
            (X.cell? ⟨fb, 0, none⟩ = some (.int .i64 xf.kind) ∧ X.cell? ⟨fb, 1, none⟩ = some (.string xf.name) ∧ X.cell? ⟨fb, 2, none⟩ = some (.int .i64 xf.n) ∧ X.cell? ⟨fb, 3, none⟩ = some (.slice ga xf.el.length gc)) ∧
            X.cell? ⟨gb, 0, none⟩ = some (.int .i64 xf.kind) ∧ X.cell? ⟨gb, 1, none⟩ = some (.string xf.name) ∧ X.cell? ⟨gb, 2, none⟩ = some (.int .i64 xf.n) ∧ X.cell? ⟨gb, 3, none⟩ = some (.slice ha xf.el.length hc)) := fun X hX => by
          refine ⟨HE.out X (hB8.trans (hX.mono hB8.size)), ?_, ?_⟩
          · have h6 := hq8.trans (hX.mono hq8.size)
            exact ⟨(h6.cell (p := ⟨fb, 0, none⟩) (cell_lt q0)).trans q0, (h6.cell (p := ⟨fb, 1, none⟩) (cell_lt q1)).trans q1, (h6.cell (p := ⟨fb, 2, none⟩) (cell_lt q2)).trans q2, (h6.cell (p := ⟨fb, 3, none⟩) (cell_lt q3)).trans q3⟩
          · exact ⟨(hX.cell (p := ⟨gb, 0, none⟩) (cell_lt r0)).trans r0, (hX.cell (p := ⟨gb, 1, none⟩) (cell_lt r1)).trans r1, (hX.cell (p := ⟨gb, 2, none⟩) (cell_lt r2)).trans r2, (hX.cell (p := ⟨gb, 3, none⟩) (cell_lt r3)).trans r3⟩
        have hW8 : ∀ X, Below w8.heap.size w8 X → Below W.heap.size W X := fun X hX => hW _ (hB8.trans (hX.mono hB8.size))
        have HQ := Lib.hid hQ
        have HW8 := Lib.hid hW8
        have Ca : ∀ X, Below w8.heap.size w8 X → Calls Try.prog 10 #[.slice la nn lc, .agg #[.int .i64 t.kind, .string t.name, .int .i64 t.n, .slice ea t.el.length ec]] X fun e X' => e = .returned (.bool (copyS its t)) ∧ Below w8.heap.size w8 X' := fun X h => (hcopy X (hW8 X h)).mono fun e X' ⟨p1, p2⟩ => ⟨p1, h.trans (p2.mono h.size)⟩
        have Cb : ∀ X, Below w8.heap.size w8 X → Calls Try.prog 17 #[.slice la nn lc, .agg #[.int .i64 t.kind, .string t.name, .int .i64 t.n, .slice ea t.el.length ec]] X fun e X' => e = .returned (.bool (copyS its t)) ∧ Below w8.heap.size w8 X' := fun X h => (hrcopy X (hW8 X h) hF).mono fun e X' ⟨p1, p2⟩ => ⟨p1, h.trans (p2.mono h.size)⟩
        have Cc : ∀ X, Below w8.heap.size w8 X → Calls Try.prog 13 #[.agg #[.int .i64 xf.kind, .string xf.name, .int .i64 xf.n, .slice ga xf.el.length gc], .agg #[.int .i64 xf.kind, .string xf.name, .int .i64 xf.n, .slice ha xf.el.length hc]] X fun e X' => e = .returned (.bool true) ∧ Below w8.heap.size w8 X' := fun X h => (same_calls W (SizeOf.sizeOf xf) xf xf X ga gc ha hc (Nat.le_refl _) (hW8 X h) hTf hTg).mono fun e X' ⟨p1, p2⟩ => ⟨by rw [p1, same_refl _ _ (Nat.le_refl _)], h.trans (p2.mono h.size)⟩
        obtain ⟨cp, hcp⟩ : ∃ cp, copyS its t = cp := ⟨_, rfl⟩
        rw [hcp] at Ca Cb
        clear q0 q1 q2 q3 r0 r1 r2 r3 hq8 hcopy hrcopy hfield hrfield hcp
        go_cut [97] (fun b wx => b = .bool false ∧ Below w8.heap.size w8 wx)
        case first =>
          have hT' : Below w8.heap.size w8 w8.drew := below_dr (Below.refl _ _)
          obtain ⟨⟨e0, e1, e2, e3⟩, ⟨f0, f1, f2, f3⟩, g0, g1, g2, g3⟩ := hQ _ hT'
          clear hQ hW8
          go_region_held3 (fun X => ((X.cell? ⟨W.heap.size, 0, none⟩ = some (.int .i64 t.kind) ∧ X.cell? ⟨W.heap.size, 1, none⟩ = some (.string t.name) ∧ X.cell? ⟨W.heap.size, 2, none⟩ = some (.int .i64 t.n) ∧ X.cell? ⟨W.heap.size, 3, none⟩ = some (.slice ea t.el.length ec)) ∧
            (X.cell? ⟨fb, 0, none⟩ = some (.int .i64 xf.kind) ∧ X.cell? ⟨fb, 1, none⟩ = some (.string xf.name) ∧ X.cell? ⟨fb, 2, none⟩ = some (.int .i64 xf.n) ∧ X.cell? ⟨fb, 3, none⟩ = some (.slice ga xf.el.length gc)) ∧
            X.cell? ⟨gb, 0, none⟩ = some (.int .i64 xf.kind) ∧ X.cell? ⟨gb, 1, none⟩ = some (.string xf.name) ∧ X.cell? ⟨gb, 2, none⟩ = some (.int .i64 xf.n) ∧ X.cell? ⟨gb, 3, none⟩ = some (.slice ha xf.el.length hc))) (first | exact HQ.out _ hT') (first
            | (go_at_call 10; refine (Ca _ hT').mono ?_; rintro e w9 ⟨rfl, hT'⟩)
            | (go_at_call 17; refine (Cb _ hT').mono ?_; rintro e w9 ⟨rfl, hT'⟩)
            | (go_at_call 13; refine (Cc _ hT').mono ?_; rintro e w9 ⟨rfl, hT'⟩))
          all_goals
            go_wp2_with fail
            go_meet
            exact ⟨by simp, hT'⟩
        case rest =>
          obtain ⟨rfl, hB9⟩ := hcut
          clear Ca Cb Cc hQ hW8
          obtain ⟨w9, hw9⟩ : ∃ y, wc = y := ⟨_, rfl⟩
          rw [hw9] at hB9 ⊢
          clear hw9 wc
          obtain ⟨⟨yi, ys, yb⟩, hvq⟩ : ∃ q, vI (variantT its t s) = q := ⟨_, rfl⟩
          have hyl := variant_len hF hvq
          obtain ⟨⟨e0, e1, e2, e3⟩, _, _⟩ := HQ.out _ hB9
          have hc9 := hvar w9 (HW8.out _ hB9) hF
          go_upto_region 10 with (go_at_call 14; refine hc9.mono ?_; rintro e w10 ⟨hVR, hb10⟩; obtain ⟨ra, rc, rfl, hrow1⟩ := (hVR.all hvq).ex)
          have hB10 := hB9.trans (hb10.mono hB9.size)
          clear hVR e0 e1 e2 e3 hc9 hvar
          obtain ⟨⟨e0, e1, e2, e3⟩, _, _⟩ := HQ.out _ hB10
          have hc10 := hrvar w10 (HW8.out _ hB10)
          go_upto_region 11 with (go_at_call 18; refine hc10.mono ?_; rintro e w11 ⟨hVR, hb11⟩; obtain ⟨sa, sc, rfl, hrow2⟩ := (hVR.all hvq).ex)
          have hB11 := hB10.trans (hb11.mono hB10.size)
          obtain ⟨n, hnn⟩ : ∃ n, ys.length = n := ⟨_, rfl⟩
          rw [hnn] at hyl ⊢
          have HN := Lib.hid hnn
          have HR1 := Lib.hid hrow1
          have HR2 := Lib.hid hrow2
          clear hVR e0 e1 e2 e3 hc10 hrvar hnn hrow1 hrow2 hb10
          go_wp2
          go_loopw [25] (fun iv wr => ∃ j : Nat, j ≤ n ∧ iv = .int .i64 j ∧ Below w11.heap.size w11 wr) (fun i _ => n - (intOf i).toNat)
          case atStart => exact ⟨0, Nat.zero_le _, rfl, Below.refl _ _⟩
          case round =>
            obtain ⟨j, hj, rfl, hB⟩ := hrel
            by_cases hlt : j < n
            · obtain ⟨u, hu⟩ : ∃ u, ys[j]? = some u := ⟨_, List.getElem?_eq_getElem (by have := HN.out; omega)⟩
              obtain ⟨b1, o1, ua, uc, rfl, x0, x1, x2, x3, hTu⟩ := HR1.out j u hu
              obtain ⟨b2, o2, va, vc, rfl, y0, y1, y2, y3, hTv⟩ := HR2.out j u hu
              have h10 := hb11.trans (hB.mono hb11.size)
              have g0 := (h10.cell (p := ⟨b1, o1 + j * 4, none⟩) (cell_lt x0)).trans x0
              have g1 := (h10.cell (p := ⟨b1, o1 + j * 4 + 1, none⟩) (cell_lt x1)).trans x1
              have g2 := (h10.cell (p := ⟨b1, o1 + j * 4 + 2, none⟩) (cell_lt x2)).trans x2
              have g3 := (h10.cell (p := ⟨b1, o1 + j * 4 + 3, none⟩) (cell_lt x3)).trans x3
              have l0 := (hB.cell (p := ⟨b2, o2 + j * 4, none⟩) (cell_lt y0)).trans y0
              have l1 := (hB.cell (p := ⟨b2, o2 + j * 4 + 1, none⟩) (cell_lt y1)).trans y1
              have l2 := (hB.cell (p := ⟨b2, o2 + j * 4 + 2, none⟩) (cell_lt y2)).trans y2
              have l3 := (hB.cell (p := ⟨b2, o2 + j * 4 + 3, none⟩) (cell_lt y3)).trans y3
              have hdb := below_dr hB
              have hcall := same_calls W (SizeOf.sizeOf u) u u wr.drew ua uc va vc (Nat.le_refl _) (HW8.out _ (hB11.trans (hdb.mono hB11.size))) hTu hTv
              rw [same_refl _ _ (Nat.le_refl _)] at hcall
              clear x0 x1 x2 x3 y0 y1 y2 y3 h10
              go_upto_region 16 with fail
              go_region_law (go_simp; go_at_call 13; refine hcall.mono ?_; rintro e w12 ⟨rfl, hb12⟩)
              all_goals
                have hBn := hdb.trans (hb12.mono hdb.size)
                go_wp2
                go_roundw
                case rel => exact ⟨j + 1, by omega, by go_num, hBn⟩
                case measure => simp [intOf]; omega
            · obtain rfl : j = n := by omega
              have hB12 := hB11.trans (hB.mono hB11.size)
              obtain ⟨w12, hw12⟩ : ∃ y, wr = y := ⟨_, rfl⟩
              rw [hw12] at hB12 ⊢
              clear hw12 hB
              go_wp2
              go_loopw [26] (fun iv wx => ∃ q : Int, -1 ≤ q ∧ q ≤ 6 ∧ iv = .int .i64 q ∧ Below w12.heap.size w12 wx) (fun i _ => (6 - intOf i).toNat)
              case atStart => exact ⟨-1, by omega, by omega, rfl, Below.refl _ _⟩
              case round =>
                obtain ⟨q, hq1, hq2, rfl, hBx⟩ := hrel
                have hBx8 := hB12.trans (hBx.mono hB12.size)
                by_cases hq5 : q ≤ 5
                · have hcf := hfind _ (HW8.out _ hBx8) q
                  go_wp2_with (first
                    | (go_at_call 19; refine hcf.mono ?_; rintro e w13 ⟨rfl, hb13⟩)
                    | (go_at_call 20; refine (hrfind w13 (HW8.out _ (hBx8.trans (hb13.mono hBx8.size))) q).mono ?_; rintro e w14 ⟨rfl, hb14⟩))
                  have hB14 := (hBx.trans (hb13.mono hBx.size)).trans (hb14.mono (hBx.trans (hb13.mono hBx.size)).size)
                  go_roundw
                  case rel => exact ⟨q + 1, by omega, by omega, by go_num, hB14⟩
                  case measure => simp [intOf]; omega
                · obtain rfl : q = 6 := by omega
                  have hT' := below_dr hBx8
                  obtain ⟨sm, hsm⟩ : ∃ sm, same t xf = sm := ⟨_, rfl⟩
                  have Cd : ∀ X, Below w8.heap.size w8 X → Calls Try.prog 21 #[.agg #[.int .i64 t.kind, .string t.name, .int .i64 t.n, .slice ea t.el.length ec], .agg #[.int .i64 xf.kind, .string xf.name, .int .i64 xf.n, .slice ga xf.el.length gc]] X fun e X' => e = .returned (.bool sm) ∧ Below w8.heap.size w8 X' := fun X h => (tsame_calls W (SizeOf.sizeOf t) t xf X ea ec ga gc (Nat.le_refl _) (HW8.out X h) hT hTf).mono fun e X' ⟨p1, p2⟩ => ⟨by rw [p1, hsm], h.trans (p2.mono h.size)⟩
                  have Ce : ∀ X, Below w8.heap.size w8 X → Calls Try.prog 13 #[.agg #[.int .i64 t.kind, .string t.name, .int .i64 t.n, .slice ea t.el.length ec], .agg #[.int .i64 xf.kind, .string xf.name, .int .i64 xf.n, .slice ga xf.el.length gc]] X fun e X' => e = .returned (.bool sm) ∧ Below w8.heap.size w8 X' := fun X h => (same_calls W (SizeOf.sizeOf t) t xf X ea ec ga gc (Nat.le_refl _) (HW8.out X h) hT hTf).mono fun e X' ⟨p1, p2⟩ => ⟨by rw [p1, hsm], h.trans (p2.mono h.size)⟩
                  have Cf : ∀ X, Below w8.heap.size w8 X → Calls Try.prog 21 #[.agg #[.int .i64 t.kind, .string t.name, .int .i64 t.n, .slice ea t.el.length ec], .agg #[.int .i64 t.kind, .string t.name, .int .i64 t.n, .slice ea t.el.length ec]] X fun e X' => e = .returned (.bool true) ∧ Below w8.heap.size w8 X' := fun X h => (tsame_calls W (SizeOf.sizeOf t) t t X ea ec ea ec (Nat.le_refl _) (HW8.out X h) hT hT).mono fun e X' ⟨p1, p2⟩ => ⟨by rw [p1, same_refl _ _ (Nat.le_refl _)], h.trans (p2.mono h.size)⟩
                  clear hfind hrfind hsm
                  go_wp2
                  obtain ⟨⟨e0, e1, e2, e3⟩, ⟨f0, f1, f2, f3⟩, _⟩ := HQ.out _ hT'
                  go_region_held3 (fun X => ((X.cell? ⟨W.heap.size, 0, none⟩ = some (.int .i64 t.kind) ∧ X.cell? ⟨W.heap.size, 1, none⟩ = some (.string t.name) ∧ X.cell? ⟨W.heap.size, 2, none⟩ = some (.int .i64 t.n) ∧ X.cell? ⟨W.heap.size, 3, none⟩ = some (.slice ea t.el.length ec)) ∧
                    (X.cell? ⟨fb, 0, none⟩ = some (.int .i64 xf.kind) ∧ X.cell? ⟨fb, 1, none⟩ = some (.string xf.name) ∧ X.cell? ⟨fb, 2, none⟩ = some (.int .i64 xf.n) ∧ X.cell? ⟨fb, 3, none⟩ = some (.slice ga xf.el.length gc)))) (first | exact ⟨(HQ.out _ hT').1, (HQ.out _ hT').2.1⟩) (first
                    | (go_at_call_of 21 (Value.agg #[.int .i64 xf.kind, .string xf.name, .int .i64 xf.n, .slice ga xf.el.length gc]); refine (Cd _ hT').mono ?_; rintro e w14 ⟨rfl, hT'⟩)
                    | (go_at_call 21; refine (Cf _ hT').mono ?_; rintro e w14 ⟨rfl, hT'⟩)
                    | (go_at_call 13; refine (Ce _ hT').mono ?_; rintro e w14 ⟨rfl, hT'⟩))
                  all_goals
                    go_wp2
                    exact bodyPost_ret (v := .bool true) (by simp [results, Try.results6, go_sem]) rfl ⟨rfl, HW8.out _ hT'⟩
end Go.Proofs.Ytioediibbgklcaa.W
