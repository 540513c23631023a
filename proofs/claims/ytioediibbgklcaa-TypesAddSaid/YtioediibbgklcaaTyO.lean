/- types.Variant. -/
import Derived.Test.YtioediibbgklcaaTyN
namespace Go.Proofs.Ytioediibbgklcaa.W
open Go Go.RowKit Go.Proofs
set_option linter.unusedVariables false
set_option linter.unusedSimpArgs false
theorem TyAt.keep {W w : World} {cs : List Value} {t : Ty} (h : TyAt W cs t) (hb : Below W.heap.size W w) : TyAt w cs t := by
  induction h with
  | mk kd nm n a cap els hl b o cf ha hc h ih => exact .mk kd nm n a cap els hl b o cf ha (fun i j hi hj => keep_cell hb (hc i j hi hj)) ih
theorem TysAt.keep {W w : World} {a : Option Addr} {ts : List Ty} (h : TysAt W a ts) (hb : Below W.heap.size W w) : TysAt w a ts := fun i t ht => by
  obtain ⟨b, o, c0, c1, c2, c3, h0, x0, x1, x2, x3, h1⟩ := h i t ht
  exact ⟨b, o, c0, c1, c2, c3, h0, keep_cell hb x0, keep_cell hb x1, keep_cell hb x2, keep_cell hb x3, h1.keep hb⟩
/-- A variant's place among its enum's, and how many types it holds. -/
def variantS (its : List It) (t : Ty) (s : ByteArray) : Option (Nat × Nat) := match itemOf its t with
  | none => none
  | some it => if it.kind = 3 then (match it.vs.findIdx? (isVar s) with
    | none => none
    | some i => some (i, ((it.vs[i]?).map fun v => v.2.length).getD 0)) else none
structure VarT (o : Option (Nat × Nat)) (e : Ending) : Prop where
  yes : ∀ i n, o = some (i, n) → ∃ a c, e = .returned (.tuple #[.int .i64 i, .slice a n c, .bool true])
  no : o = none → e = .returned (.tuple #[.int .i64 0, .slice none 0 0, .bool false])
theorem varT_no {e : Ending} (h : e = .returned (.tuple #[.int .i64 0, .slice none 0 0, .bool false])) : VarT none e := ⟨fun i n h => (by cases h), fun _ => h⟩
theorem varT_yes {e : Ending} {i n : Nat} (h : ∃ a c, e = .returned (.tuple #[.int .i64 i, .slice a n c, .bool true])) : VarT (some (i, n)) e := ⟨fun i' n' h' => by cases h'; exact h, fun h => (by cases h)⟩
theorem Told.got {W0 : World} {o : Option It} {e : Ending} (h : Told W0 o e) {it : It} (ho : o = some it) : ∃ A : Array Value, ∃ va vc, A.size = 20 ∧ (∀ v ∈ A.toList, v.oneCell' = true) ∧ A[0]? = some (.int .i64 it.kind) ∧ A[4]? = some (.slice va it.vs.length vc) ∧ it.vs.length ≤ 9223372036854775807 ∧ VsAt W0 va it.vs ∧ e = .returned (.tuple #[.agg A, .bool true]) := by
  obtain ⟨cs, hIt, rfl⟩ := h.yes it ho
  obtain ⟨h1, h2⟩ := hIt.one
  obtain ⟨pa, pc, va, vc, t, rfl, _, hv, _, hV⟩ := hIt.ex
  exact ⟨_, va, vc, by simpa using h1, by simpa using h2, rfl, rfl, hv, hV, rfl⟩
theorem zero_there (X : World) : (∀ j, j < 20 → ((X.alloc (.cells zero35 35)).cell? ⟨X.heap.size, 0 + j, none⟩).isSome = true) ∧ ∀ j, j < 20 → (X.alloc (.cells zero35 35)).frozen? ⟨X.heap.size, 0 + j, none⟩ = false := row_there (heap_alloc_new X _) rfl
set_option maxHeartbeats 4000000 in
set_option maxRecDepth 100000 in
theorem variant_calls (W0 W : World) (hb : Below W0.heap.size W0 W) (la : Option Addr) (its : List It) (lc : Nat) (hn : its.length ≤ 9223372036854775807) (hI : ItsAt W0 la its) (t : Ty) (ea : Option Addr) (el ec : Nat) (s : ByteArray) (hvs : ∀ it, itemOf its t = some it → ∀ v ∈ it.vs, v.2.length ≤ 1000) :
    Calls Try.prog 14 #[.slice la its.length lc, .agg #[.int .i64 t.kind, .string t.name, .int .i64 t.n, .slice ea el ec], .string s] W fun e w' => VarT (variantS its t s) e ∧ Below W.heap.size W w' := by
  have hcall := fun X hX => item_calls W0 X hX la its lc hn hI t ea el ec
  obtain ⟨nn, hnl⟩ : ∃ nn, its.length = nn := ⟨_, rfl⟩
  rw [hnl] at hcall ⊢
  go_enter Try.func14, Try.ntmps14
  go_upto_region 1 with fail
  have hb1 : Below W.heap.size W (W.alloc (.cells #[.int .i64 t.kind, .string t.name, .int .i64 t.n, .slice ea el ec] 26)) := (Below.refl _ _).alloc (Nat.le_refl _) _
  have hT1 := heap_alloc_new W (.cells #[.int .i64 t.kind, .string t.name, .int .i64 t.n, .slice ea el ec] 26)
  obtain ⟨w1, hw1⟩ : ∃ y, W.alloc (.cells #[.int .i64 t.kind, .string t.name, .int .i64 t.n, .slice ea el ec] 26) = y := ⟨_, rfl⟩
  have hs1 : w1.heap.size = W.heap.size + 1 := by rw [← hw1]; simp
  rw [hw1] at hb1 hT1 ⊢
  have hb2 : Below w1.heap.size w1 (w1.alloc (.cells #[.string s] 9)) := (Below.refl _ _).alloc (Nat.le_refl _) _
  have hS1 := heap_alloc_new w1 (.cells #[.string s] 9)
  obtain ⟨w2, hw2⟩ : ∃ y, w1.alloc (.cells #[.string s] 9) = y := ⟨_, rfl⟩
  have hs2 : w2.heap.size = W.heap.size + 2 := by rw [← hw2]; simp [hs1]
  rw [hw2] at hb2 hS1
  rw [hs1] at hS1
  rw [hw2]
  have hB2 : Below W.heap.size W w2 := hb1.trans (hb2.mono hb1.size)
  have hT2 := (hb2.block W.heap.size (by omega)).trans hT1
  have e0 : w2.cell? ⟨W.heap.size, 0, none⟩ = some (.int .i64 t.kind) := by rw [cell_of_row _ _ _ _ 26 (0, 0) hT2]; rfl
  have e1 : w2.cell? ⟨W.heap.size, 1, none⟩ = some (.string t.name) := by rw [cell_of_row _ _ _ _ 26 (0, 0) hT2]; rfl
  have e2 : w2.cell? ⟨W.heap.size, 2, none⟩ = some (.int .i64 t.n) := by rw [cell_of_row _ _ _ _ 26 (0, 0) hT2]; rfl
  have e3 : w2.cell? ⟨W.heap.size, 3, none⟩ = some (.slice ea el ec) := by rw [cell_of_row _ _ _ _ 26 (0, 0) hT2]; rfl
  have hc := hcall w2 (hb.trans (hB2.mono hb.size))
  clear hw1 hw2 hb1 hb2 hcall hT1 hT2 hs1
  obtain ⟨i0, hi0, hi1⟩ := info_size info35
  have hlt : W.heap.size ≤ w2.heap.size := by omega
  cases hit : itemOf its t with
  | none =>
    have hv0 : variantS its t s = none := by unfold variantS; rw [hit]
    have HX := Lib.hid hv0
    clear hv0
    go_wp2_with (first
      | (go_at_call 24; refine hc.mono ?_; rintro e w3 ⟨hTo, hb3⟩; obtain ⟨A, hAs, hA1, rfl⟩ := hTo.no hit)
      | (refine wpList_store_row rfl 35 (.tmp 9) (.tmp 16) rfl 20 i0 hi0 hi1 (w3.heap.size) 0 A rfl rfl hAs hA1 (zero_there _).1 (zero_there _).2 ?_; intro w4 hL))
    have hB3 := hB2.trans (hb3.mono hB2.size)
    exact bodyPost_ret (v := .tuple #[.int .i64 0, .slice none 0 0, .bool false]) (by simp [results, Try.results14, go_sem]) rfl ⟨by rw [HX.out]; exact varT_no rfl, below_laid (hB3.alloc hB3.size _) hL hB3.size (by have := hB3.size; simp; omega)⟩
  | some it =>
    go_upto_region 2 with (first
      | (go_at_call 24; refine hc.mono ?_; rintro e w3 ⟨hTo, hb3⟩; obtain ⟨A, va, vc, hAs, hA1, hA0, hA4, hvl, hV, rfl⟩ := hTo.got hit)
      | (refine wpList_store_row rfl 35 (.tmp 9) (.tmp 16) rfl 20 i0 hi0 hi1 (w3.heap.size) 0 A rfl rfl hAs hA1 (zero_there _).1 (zero_there _).2 ?_; intro w4 hL))
    have hB3 := hB2.trans (hb3.mono hB2.size)
    have hB4 := below_laid (hB3.alloc hB3.size (.cells zero35 35)) hL hB3.size (by have := hB3.size; simp; omega)
    have f0 : w4.cell? ⟨w3.heap.size, 0, none⟩ = some (.int .i64 it.kind) := (hL.cells 0 (by omega)).trans hA0
    have f4 : w4.cell? ⟨w3.heap.size, 4, none⟩ = some (.slice va it.vs.length vc) := (hL.cells 4 (by omega)).trans hA4
    have hS4 : w4.cell? ⟨W.heap.size + 1, 0, none⟩ = some (.string s) := by
      have h1 := hb3.block (W.heap.size + 1) (by omega)
      have h2 := hL.grown.block (W.heap.size + 1) (by have := hb3.size; simp; omega) (by intro e; injection e with e; have := hb3.size; omega)
      have h3 := ((Below.refl w3.heap.size w3).alloc (Nat.le_refl _) (.cells zero35 35)).block (W.heap.size + 1) (by have := hb3.size; omega)
      rw [cell_of_row _ _ _ _ 9 (0, 0) (h2.trans (h3.trans (h1.trans hS1)))]
      rfl
    have hs4 : W.heap.size + 1 < w4.heap.size := by rw [hL.size]; have := hb3.size; simp; omega
    have hB04 := hb.trans (hB4.mono hb.size)
    obtain ⟨bb, hbb⟩ : ∃ bb, w3.heap.size = bb := ⟨_, rfl⟩
    rw [hbb] at f0 f4 ⊢
    have hvs' := hvs it hit
    have HIT := Lib.hid hit
    obtain ⟨kd, hkd⟩ : ∃ kd, it.kind = kd := ⟨_, rfl⟩
    rw [hkd] at f0
    obtain ⟨vs, hvse⟩ : ∃ vs, it.vs = vs := ⟨_, rfl⟩
    rw [hvse] at f4 hvl hV hvs'
    have HK := Lib.hid hkd
    have HV := Lib.hid hvse
    clear hL hA0 hA4 hA1 hAs hb3 hB3 hbb e0 e1 e2 e3 hS1 hc hit hvs hkd hvse hTo
    have hVar : variantS its t s = if kd = 3 then (match vs.findIdx? (isVar s) with
        | none => none
        | some i => some (i, ((vs[i]?).map fun v => v.2.length).getD 0)) else none := by unfold variantS; rw [HIT.out]; simp only; rw [HK.out, HV.out]
    have hfv := findv_calls W0 w4 hB04 va vs vc hvl hV (W.heap.size + 1) s hs4 hS4
    by_cases h3 : kd = 3
    · subst h3
      rw [if_pos rfl] at hVar
      cases hfi : vs.findIdx? (isVar s) with
      | none =>
        rw [hfi] at hfv hVar
        have HX := Lib.hid hVar
        clear hVar
        obtain ⟨n, hn'⟩ : ∃ n, vs.length = n := ⟨_, rfl⟩
        rw [hn'] at hfv f4
        clear hfi
        simp only [idxOf] at hfv
        go_wp2_with (go_at_call 26; refine hfv.mono ?_; rintro e w5 ⟨rfl, hb5⟩)
        exact bodyPost_ret (v := .tuple #[.int .i64 0, .slice none 0 0, .bool false]) (by simp [results, Try.results14, go_sem]) rfl ⟨by rw [HX.out]; exact varT_no rfl, hB4.trans (hb5.mono hB4.size)⟩
      | some i =>
        rw [hfi] at hfv hVar
        obtain ⟨hil, hiv⟩ : i < vs.length ∧ ∃ v, vs[i]? = some v := by
          have h := List.findIdx?_eq_some_iff_getElem.1 hfi
          obtain ⟨hl, _⟩ := h
          exact ⟨hl, _, List.getElem?_eq_getElem hl⟩
        obtain ⟨v, hiv⟩ := hiv
        obtain ⟨b, o, ta, tc, x, rfl, x0, x1, x2, hl2, hts⟩ := hV i v hiv
        have hv1000 := hvs' v (List.mem_of_getElem? hiv)
        simp only [hiv, Option.map_some, Option.getD_some] at hVar
        have HX := Lib.hid hVar
        clear hVar
        obtain ⟨n, hn'⟩ : ∃ n, vs.length = n := ⟨_, rfl⟩
        rw [hn'] at hfv f4 hil hvl
        clear hfi hvs' hiv hV hn'
        have hfv := hfv
        simp only [idxOf] at hfv
        have hin : ¬ ((i : Int) < 0) := by omega
        have z1 := keep_cell hB04 x1
        have hcl := fun X hX => clone_calls X ta v.2 tc hv1000 hX
        obtain ⟨m, hm⟩ : ∃ m, v.2.length = m := ⟨_, rfl⟩
        rw [hm] at z1 hcl HX
        go_upto_region 7 with (go_at_call 26; refine hfv.mono ?_; rintro e w5 ⟨rfl, hb5⟩)
        have y1 := (hb5.cell (p := ⟨b, o + i * 3 + 1, none⟩) (cell_lt z1)).trans z1
        have y4 := (hb5.cell (p := ⟨bb, 4, none⟩) (cell_lt f4)).trans f4
        have hB5 := hB4.trans (hb5.mono hB4.size)
        have hts5 : TysAt w5 ta v.2 := hts.keep (hb.trans (hB5.mono hb.size))
        have hcl5 := hcl w5 hts5
        clear hcl hfv hts5 hts f0 f4 hb5 z1
        go_wp2_with (go_at_call 28; refine hcl5.mono ?_; rintro e w6 ⟨⟨a6, c6, rfl⟩, hb6⟩)
        exact bodyPost_ret (v := .tuple #[.int .i64 i, .slice a6 m c6, .bool true]) (by simp [results, Try.results14, go_sem]) rfl ⟨by rw [HX.out]; exact varT_yes ⟨_, _, rfl⟩, hB5.trans (hb6.mono hB5.size)⟩
    · rw [if_neg h3] at hVar
      have HX := Lib.hid hVar
      clear hVar
      go_wp2
      exact bodyPost_ret (v := .tuple #[.int .i64 0, .slice none 0 0, .bool false]) (by simp [results, Try.results14, go_sem]) rfl ⟨by rw [HX.out]; exact varT_no rfl, hB4⟩
end Go.Proofs.Ytioediibbgklcaa.W
