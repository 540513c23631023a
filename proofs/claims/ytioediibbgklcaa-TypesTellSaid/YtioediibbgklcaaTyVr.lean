/- types.Variant with the types that it hands on; ferruleref05.Variant. -/
import Derived.Test.YtioediibbgklcaaTyWd
namespace Go.Proofs.Ytioediibbgklcaa.W
open Go Go.RowKit Go.Proofs
set_option linter.unusedVariables false
set_option linter.unusedSimpArgs false
/-- What Clone answers. -/
structure CloneT (W0 w : World) (ts : List Ty) (e : Ending) : Prop where
  ex : ∃ v, e = .returned v ∧ RowT W0 w v ts
set_option maxHeartbeats 4000000 in
set_option maxRecDepth 100000 in
theorem clone2_calls (W0 W : World) (hb : Below W0.heap.size W0 W) (ta : Option Addr) (ts : List Ty) (tc : Nat) (hn : ts.length < 300) (hT : TysAt W0 ta ts) :
    Calls Try.prog 28 #[.slice ta ts.length tc] W fun e w' => CloneT W0 w' ts e ∧ Below W.heap.size W w' := by
  cases ta with
  | none =>
    have h0 : ts.length = 0 := by
      cases ts with
      | nil => rfl
      | cons t r => obtain ⟨b, o, _, _, _, _, h, _⟩ := hT 0 t rfl; cases h
    have htsn : ts = [] := List.eq_nil_of_length_eq_zero h0
    subst htsn
    have hr0 := (OwnT.nil W0 0 W).row
    rw [h0]
    have he : ∀ w : World, (binOp .eql 24 (.slice none 0 tc) (.slice none 0 0)).run Try.prog w = .ok (.bool true) w := fun _ => rfl
    go_enter Try.func28, Try.ntmps28
    go_wp2
    exact bodyPost_ret (v := .slice none 0 0) (by simp [results, Try.results28, go_sem]) rfl ⟨⟨_, rfl, hr0⟩, Below.refl _ _⟩
  | some ad =>
    obtain ⟨news, h1, h2, h3, hnw⟩ := many_news hb hT
    have HNW := Lib.hid hnw
    clear hnw
    obtain ⟨n, hnl⟩ : ∃ n, ts.length = n := ⟨_, rfl⟩
    have HNL := Lib.hid hnl
    rw [hnl] at hn h1 ⊢
    obtain ⟨i0, hi, hz0, hz1, hz2⟩ := info_parts info26
    clear hT hnl
    have hb1 : Below W.heap.size W (W.alloc (.cells #[] 26)) := (Below.refl _ _).alloc (Nat.le_refl _) _
    have ho := own_empty W 26 4
    have h2' : ∀ j u, news[j]? = some u → (W.alloc (.cells #[] 26)).cell? (ad.add j) = some u := by
      obtain ⟨b, o, p⟩ := ad
      intro j u h
      have h4 := h2 j u h
      have hbl : ((⟨b, o, p⟩ : Addr).add j).block = b := by unfold Addr.add; split <;> rfl
      refine (hb1.cell ?_).trans h4
      rw [hbl]
      by_cases q : b < W.heap.size
      · exact q
      · exfalso
        have e : W.heap[b]? = none := Array.getElem?_eq_none (by omega)
        simp [World.cell?, hbl, e] at h4
    have he : ∀ w : World, (binOp .eql 24 (.slice (some ad) n tc) (.slice none 0 0)).run Try.prog w = .ok (.bool false) w := fun _ => rfl
    go_enter Try.func28, Try.ntmps28
    go_wp2_with (
      refine wpList_append_own2 rfl (.tmp 5) (.tmp 6) 24 rfl W.heap.size 26 i0 _ 4 56 Try.underlying24 hi hz0 hz1 hz2 rfl (by decide) _ 0 [] rfl ho ad n tc news rfl h1 h2' h3 (by unfold maxLen; omega) (by omega) (by simp) ?_
      intro v' w4 hown hgr hG)
    have hb4 : Below W.heap.size W w4 := hb1.grown hgr hb1.size (fun g hg => (ho.lt g hg).1)
    have hO4 : OwnT W0 W.heap.size w4 v' (0 + n) ([] ++ ts) := own_more (w := W) (xs := []) (ts := []) (n := 0) (World.ownsRow_nil _ _ _ _) rfl (fun i t h => by simp at h) HNL.out HNW.out hown
    exact bodyPost_ret (v := v') (by simp [results, Try.results28, go_sem]) rfl ⟨⟨_, rfl, hO4.row⟩, hb4⟩
/-- A variant's place among its enum's, and its types. -/
def variantT (its : List It) (t : Ty) (s : ByteArray) : Option (Nat × List Ty) := match itemOf its t with
  | none => none
  | some it => if it.kind = 3 then (match it.vs.findIdx? (isVar s) with
    | none => none
    | some i => some (i, ((it.vs[i]?).map Prod.snd).getD [])) else none
structure VarR (W0 w : World) (o : Option (Nat × List Ty)) (e : Ending) : Prop where
  yes : ∀ i ts, o = some (i, ts) → ∃ v, e = .returned (.tuple #[.int .i64 (i : Nat), v, .bool true]) ∧ RowT W0 w v ts
  no : o = none → e = .returned (.tuple #[.int .i64 0, .slice none 0 0, .bool false])
theorem varR_no {W0 w : World} {e : Ending} (h : e = .returned (.tuple #[.int .i64 0, .slice none 0 0, .bool false])) : VarR W0 w none e := ⟨fun i n h => (by cases h), fun _ => h⟩
theorem varR_yes {W0 w : World} {e : Ending} {i : Nat} {ts : List Ty} (h : ∃ v, e = .returned (.tuple #[.int .i64 (i : Nat), v, .bool true]) ∧ RowT W0 w v ts) : VarR W0 w (some (i, ts)) e := ⟨fun i' n' h' => by cases h'; exact h, fun h => (by cases h)⟩
set_option maxHeartbeats 4000000 in
set_option maxRecDepth 100000 in
theorem variant2_calls (W0 W : World) (hb : Below W0.heap.size W0 W) (la : Option Addr) (its : List It) (lc : Nat) (hn : its.length ≤ 9223372036854775807) (hI : ItsAt W0 la its) (t : Ty) (ea : Option Addr) (el ec : Nat) (s : ByteArray) (hF : FewOf its) :
    Calls Try.prog 14 #[.slice la its.length lc, .agg #[.int .i64 t.kind, .string t.name, .int .i64 t.n, .slice ea el ec], .string s] W fun e w' => VarR W0 w' (variantT its t s) e ∧ Below W.heap.size W w' := by
  have hcall := fun X hX => item_calls W0 X hX la its lc hn hI t ea el ec
  obtain ⟨nn, hnl⟩ : ∃ nn, its.length = nn := ⟨_, rfl⟩
  rw [hnl] at hcall ⊢
  go_enter Try.func14, Try.ntmps14
  go_upto_region 1 with fail
  have hb1 : Below W.heap.size W (W.alloc (.cells #[.int .i64 t.kind, .string t.name, .int .i64 t.n, .slice ea el ec] 26)) := (Below.refl _ _).alloc (Nat.le_refl _) _
  have hT1 := heap_alloc_new W (.cells #[.int .i64 t.kind, .string t.name, .int .i64 t.n, .slice ea el ec] 26)
  obtain ⟨w1, hw1⟩ : ∃ y, W.alloc (.cells #[.int .i64 t.kind, .string t.name, .int .i64 t.n, .slice ea el ec] 26) = y := ⟨_, rfl⟩
  have hs1 : w1.heap.size = W.heap.size + 1 := by rw [← hw1]; simp
  rw [hw1] at hb1 hT1 ⊢
  have hb2 : Below w1.heap.size w1 (w1.alloc (.cells #[.string s] 9)) := (Below.refl _ _).alloc (Nat.le_refl _) _
  have hS1 := heap_alloc_new w1 (.cells #[.string s] 9)
  obtain ⟨w2, hw2⟩ : ∃ y, w1.alloc (.cells #[.string s] 9) = y := ⟨_, rfl⟩
  have hs2 : w2.heap.size = W.heap.size + 2 := by rw [← hw2]; simp [hs1]
  rw [hw2] at hb2 hS1
  rw [hs1] at hS1
  rw [hw2]
  have hB2 : Below W.heap.size W w2 := hb1.trans (hb2.mono hb1.size)
  have hT2 := (hb2.block W.heap.size (by omega)).trans hT1
  have e0 : w2.cell? ⟨W.heap.size, 0, none⟩ = some (.int .i64 t.kind) := by rw [cell_of_row _ _ _ _ 26 (0, 0) hT2]; rfl
  have e1 : w2.cell? ⟨W.heap.size, 1, none⟩ = some (.string t.name) := by rw [cell_of_row _ _ _ _ 26 (0, 0) hT2]; rfl
  have e2 : w2.cell? ⟨W.heap.size, 2, none⟩ = some (.int .i64 t.n) := by rw [cell_of_row _ _ _ _ 26 (0, 0) hT2]; rfl
  have e3 : w2.cell? ⟨W.heap.size, 3, none⟩ = some (.slice ea el ec) := by rw [cell_of_row _ _ _ _ 26 (0, 0) hT2]; rfl
  have hc := hcall w2 (hb.trans (hB2.mono hb.size))
  clear hw1 hw2 hb1 hb2 hcall hT1 hT2 hs1
  obtain ⟨i0, hi0, hi1⟩ := info_size info35
  have hlt : W.heap.size ≤ w2.heap.size := by omega
  cases hit : itemOf its t with
  | none =>
    have hv0 : variantT its t s = none := by unfold variantT; rw [hit]
    have HX := Lib.hid hv0
    clear hv0
    go_wp2_with (first
      | (go_at_call 24; refine hc.mono ?_; rintro e w3 ⟨hTo, hb3⟩; obtain ⟨A, hAs, hA1, rfl⟩ := hTo.no hit)
      | (refine wpList_store_row rfl 35 (.tmp 9) (.tmp 16) rfl 20 i0 hi0 hi1 (w3.heap.size) 0 A rfl rfl hAs hA1 (zero_there _).1 (zero_there _).2 ?_; intro w4 hL))
    have hB3 := hB2.trans (hb3.mono hB2.size)
    exact bodyPost_ret (v := .tuple #[.int .i64 0, .slice none 0 0, .bool false]) (by simp [results, Try.results14, go_sem]) rfl ⟨by rw [HX.out]; exact varR_no rfl, below_laid (hB3.alloc hB3.size _) hL hB3.size (by have := hB3.size; simp; omega)⟩
  | some it =>
    go_upto_region 2 with (first
      | (go_at_call 24; refine hc.mono ?_; rintro e w3 ⟨hTo, hb3⟩; obtain ⟨A, va, vc, hAs, hA1, hA0, hA4, hvl, hV, rfl⟩ := hTo.got hit)
      | (refine wpList_store_row rfl 35 (.tmp 9) (.tmp 16) rfl 20 i0 hi0 hi1 (w3.heap.size) 0 A rfl rfl hAs hA1 (zero_there _).1 (zero_there _).2 ?_; intro w4 hL))
    have hB3 := hB2.trans (hb3.mono hB2.size)
    have hB4 := below_laid (hB3.alloc hB3.size (.cells zero35 35)) hL hB3.size (by have := hB3.size; simp; omega)
    have f0 : w4.cell? ⟨w3.heap.size, 0, none⟩ = some (.int .i64 it.kind) := (hL.cells 0 (by omega)).trans hA0
    have f4 : w4.cell? ⟨w3.heap.size, 4, none⟩ = some (.slice va it.vs.length vc) := (hL.cells 4 (by omega)).trans hA4
    have hS4 : w4.cell? ⟨W.heap.size + 1, 0, none⟩ = some (.string s) := by
      have h1 := hb3.block (W.heap.size + 1) (by omega)
      have h2 := hL.grown.block (W.heap.size + 1) (by have := hb3.size; simp; omega) (by intro e; injection e with e; have := hb3.size; omega)
      have h3 := ((Below.refl w3.heap.size w3).alloc (Nat.le_refl _) (.cells zero35 35)).block (W.heap.size + 1) (by have := hb3.size; omega)
      rw [cell_of_row _ _ _ _ 9 (0, 0) (h2.trans (h3.trans (h1.trans hS1)))]
      rfl
    have hs4 : W.heap.size + 1 < w4.heap.size := by rw [hL.size]; have := hb3.size; simp; omega
    have hB04 := hb.trans (hB4.mono hb.size)
    obtain ⟨bb, hbb⟩ : ∃ bb, w3.heap.size = bb := ⟨_, rfl⟩
    rw [hbb] at f0 f4 ⊢
    have hvs' : ∀ v ∈ it.vs, v.2.length < 300 := by
      have hio := hit
      rw [itemOf_eq] at hio
      split at hio
      · obtain ⟨q, hq⟩ := List.getElem?_of_mem (List.mem_of_find?_eq_some hio)
        intro v hv
        obtain ⟨r, hr⟩ := List.getElem?_of_mem hv
        exact (hF.each q it hq).each r v hr
      · cases hio
    have HIT := Lib.hid hit
    obtain ⟨kd, hkd⟩ : ∃ kd, it.kind = kd := ⟨_, rfl⟩
    rw [hkd] at f0
    obtain ⟨vs, hvse⟩ : ∃ vs, it.vs = vs := ⟨_, rfl⟩
    rw [hvse] at f4 hvl hV hvs'
    have HK := Lib.hid hkd
    have HV := Lib.hid hvse
    clear hL hA0 hA4 hA1 hAs hb3 hB3 hbb e0 e1 e2 e3 hS1 hc hit hkd hvse hTo
    have hVar : variantT its t s = if kd = 3 then (match vs.findIdx? (isVar s) with
        | none => none
        | some i => some (i, ((vs[i]?).map Prod.snd).getD [])) else none := by unfold variantT; rw [HIT.out]; simp only; rw [HK.out, HV.out]
    have hfv := findv_calls W0 w4 hB04 va vs vc hvl hV (W.heap.size + 1) s hs4 hS4
    by_cases h3 : kd = 3
    · subst h3
      rw [if_pos rfl] at hVar
      cases hfi : vs.findIdx? (isVar s) with
      | none =>
        rw [hfi] at hfv hVar
        have HX := Lib.hid hVar
        clear hVar
        obtain ⟨n, hn'⟩ : ∃ n, vs.length = n := ⟨_, rfl⟩
        rw [hn'] at hfv f4
        clear hfi
        simp only [idxOf] at hfv
        go_wp2_with (go_at_call 26; refine hfv.mono ?_; rintro e w5 ⟨rfl, hb5⟩)
        exact bodyPost_ret (v := .tuple #[.int .i64 0, .slice none 0 0, .bool false]) (by simp [results, Try.results14, go_sem]) rfl ⟨by rw [HX.out]; exact varR_no rfl, hB4.trans (hb5.mono hB4.size)⟩
      | some i =>
        rw [hfi] at hfv hVar
        obtain ⟨hil, hiv⟩ : i < vs.length ∧ ∃ v, vs[i]? = some v := by
          have h := List.findIdx?_eq_some_iff_getElem.1 hfi
          obtain ⟨hl, _⟩ := h
          exact ⟨hl, _, List.getElem?_eq_getElem hl⟩
        obtain ⟨v, hiv⟩ := hiv
        obtain ⟨b, o, ta, tc, x, rfl, x0, x1, x2, hl2, hts⟩ := hV i v hiv
        have hv1000 := hvs' v (List.mem_of_getElem? hiv)
        simp only [hiv, Option.map_some, Option.getD_some] at hVar
        have HX := Lib.hid hVar
        clear hVar
        obtain ⟨n, hn'⟩ : ∃ n, vs.length = n := ⟨_, rfl⟩
        rw [hn'] at hfv f4 hil hvl
        clear hfi hvs' hiv hV hn'
        have hfv := hfv
        simp only [idxOf] at hfv
        have hin : ¬ ((i : Int) < 0) := by omega
        have z1 := keep_cell hB04 x1
        have hcl := fun X hX => clone2_calls W0 X hX ta v.2 tc hv1000 hts
        obtain ⟨m, hm⟩ : ∃ m, v.2.length = m := ⟨_, rfl⟩
        rw [hm] at z1 hcl
        go_upto_region 7 with (go_at_call 26; refine hfv.mono ?_; rintro e w5 ⟨rfl, hb5⟩)
        have y1 := (hb5.cell (p := ⟨b, o + i * 3 + 1, none⟩) (cell_lt z1)).trans z1
        have y4 := (hb5.cell (p := ⟨bb, 4, none⟩) (cell_lt f4)).trans f4
        have hB5 := hB4.trans (hb5.mono hB4.size)
        have hcl5 := hcl w5 (hb.trans (hB5.mono hb.size))
        clear hcl hfv hts f0 f4 hb5 z1
        go_wp2_with (go_at_call 28; refine hcl5.mono ?_; rintro e w6 ⟨hRc, hb6⟩; obtain ⟨v6, rfl, hR6⟩ := hRc.ex)
        exact bodyPost_ret (v := .tuple #[.int .i64 i, v6, .bool true]) (by simp [results, Try.results14, go_sem]) rfl ⟨by rw [HX.out]; exact varR_yes ⟨_, rfl, hR6⟩, hB5.trans (hb6.mono hB5.size)⟩
    · rw [if_neg h3] at hVar
      have HX := Lib.hid hVar
      clear hVar
      go_wp2
      exact bodyPost_ret (v := .tuple #[.int .i64 0, .slice none 0 0, .bool false]) (by simp [results, Try.results14, go_sem]) rfl ⟨by rw [HX.out]; exact varR_no rfl, hB4⟩
theorem rowT_of {W0 w : World} (hb : Below W0.heap.size W0 w) {a : Option Addr} {ts : List Ty} (c : Nat) (h : TysAt W0 a ts) : RowT W0 w (.slice a ts.length c) ts := by
  refine ⟨a, c, rfl, fun i t hi => ?_⟩
  obtain ⟨b, o, c0, c1, c2, c3, h0, x0, x1, x2, x3, hT⟩ := h i t hi
  obtain ⟨ta, tc, rfl, rfl, rfl, rfl, _, _⟩ := hT.inv
  exact ⟨b, o, ta, tc, h0, keep_cell hb x0, keep_cell hb x1, keep_cell hb x2, keep_cell hb x3, hT⟩
set_option maxHeartbeats 4000000 in
set_option maxRecDepth 100000 in
theorem refvariant_calls (W0 W : World) (hb : Below W0.heap.size W0 W) (la : Option Addr) (its : List It) (lc : Nat) (hn : its.length ≤ 9223372036854775807) (hI : ItsAt W0 la its) (t : Ty) (ea : Option Addr) (el ec : Nat) (s : ByteArray) :
    Calls Try.prog 18 #[.slice la its.length lc, .agg #[.int .i64 t.kind, .string t.name, .int .i64 t.n, .slice ea el ec], .string s] W fun e w' => VarR W0 w' (variantT its t s) e ∧ Below W.heap.size W w' := by
  have hidx := fun X hX => index_calls W0 X hX la its lc hn hI t.name
  obtain ⟨nn, hnl⟩ : ∃ nn, its.length = nn := ⟨_, rfl⟩
  rw [hnl] at hidx ⊢
  have HNN := Lib.hid hnl
  clear hnl
  go_enter Try.func18, Try.ntmps18
  go_upto_region 1 with fail
  have hb1 : Below W.heap.size W (W.alloc (.cells #[.int .i64 t.kind, .string t.name, .int .i64 t.n, .slice ea el ec] 26)) := (Below.refl _ _).alloc (Nat.le_refl _) _
  have hT1 := heap_alloc_new W (.cells #[.int .i64 t.kind, .string t.name, .int .i64 t.n, .slice ea el ec] 26)
  obtain ⟨w1, hw1⟩ : ∃ y, W.alloc (.cells #[.int .i64 t.kind, .string t.name, .int .i64 t.n, .slice ea el ec] 26) = y := ⟨_, rfl⟩
  rw [hw1] at hb1 hT1 ⊢
  have e0 : w1.cell? ⟨W.heap.size, 0, none⟩ = some (.int .i64 t.kind) := by rw [cell_of_row _ _ _ _ 26 (0, 0) hT1]; rfl
  have e1 : w1.cell? ⟨W.heap.size, 1, none⟩ = some (.string t.name) := by rw [cell_of_row _ _ _ _ 26 (0, 0) hT1]; rfl
  have hc := hidx w1 (hb.trans (hb1.mono hb.size))
  have hvt : variantT its t s = match itemOf its t with
      | none => none
      | some it => if it.kind = 3 then (match it.vs.findIdx? (isVar s) with
        | none => none
        | some i => some (i, ((it.vs[i]?).map Prod.snd).getD [])) else none := rfl
  rw [itemOf_eq] at hvt
  clear hw1 hT1 hidx
  by_cases h9 : t.kind = 9
  · rw [if_pos h9] at hvt
    rcases find_idx (p := named? t.name) its with ⟨q1, q2⟩ | ⟨k, it, q1, q2, q3⟩
    · rw [q2] at hvt
      rw [q1] at hc
      have HX := Lib.hid hvt
      clear hvt q1 q2
      simp only [idxOf] at hc
      go_upto_region 2 with (go_at_call 11; refine hc.mono ?_; rintro e w2 ⟨rfl, hb2⟩)
      have d0 := (hb2.cell (p := ⟨W.heap.size, 0, none⟩) (cell_lt e0)).trans e0
      go_wp2
      exact bodyPost_ret (v := .tuple #[.int .i64 0, .slice none 0 0, .bool false]) (by simp [results, Try.results18, go_sem]) rfl ⟨by rw [HX.out]; exact varR_no rfl, hb1.trans (hb2.mono hb1.size)⟩
    · rw [q3] at hvt
      rw [q1] at hc
      simp only at hvt
      simp only [idxOf] at hc
      obtain ⟨b, o, cs, rfl, hl, hcs, hIt⟩ := hI k it q2
      obtain ⟨pa, pc, va, vc, _, p0, p1, p3, p4, _, hvl, hP, hV⟩ := hIt.heads
      have hkn : k < nn := by have := (List.getElem?_eq_some_iff.1 q2).1; have := HNN.out; omega
      have hk0 : ¬ ((k : Int) < 0) := by omega
      have X0 := Lib.hid ((hcs 0 (by omega)).trans p0)
      have X4 := Lib.hid ((hcs 4 (by omega)).trans p4)
      clear hcs p0 p1 p3 p4 hIt q1 q2 q3 hl
      go_upto_region 2 with (go_at_call 11; refine hc.mono ?_; rintro e w2 ⟨rfl, hb2⟩)
      have d0 := (hb2.cell (p := ⟨W.heap.size, 0, none⟩) (cell_lt e0)).trans e0
      have hB2 := hb1.trans (hb2.mono hb1.size)
      have hB02 := hb.trans (hB2.mono hb.size)
      have x0 := keep_cell hB02 X0.out
      have x4 := keep_cell hB02 X4.out
      rw [Nat.add_zero] at x0
      by_cases h3 : it.kind = 3
      · rw [if_pos h3] at hvt
        have HX := Lib.hid hvt
        obtain ⟨n, hnn⟩ : ∃ n, it.vs.length = n := ⟨_, rfl⟩
        rw [hnn] at x4 hvl
        have HN := Lib.hid hnn
        clear hvt hnn hc e0 e1
        go_wp2
        go_loopw [10] (fun i wr => ∃ j : Nat, j ≤ n ∧ i = .int .i64 j ∧ wr = w2 ∧ ∀ r y, r < j → it.vs[r]? = some y → isVar s y = false) (fun i _ => n - (intOf i).toNat)
        case atStart => exact ⟨0, Nat.zero_le _, rfl, rfl, fun r y h => absurd h (by omega)⟩
        case round =>
          obtain ⟨j, hj, rfl, hwr, hno⟩ := hrel
          rw [hwr]
          clear hwr wr
          by_cases hlt : j < n
          · obtain ⟨v, hv⟩ : ∃ v, it.vs[j]? = some v := ⟨_, List.getElem?_eq_getElem (by have := HN.out; omega)⟩
            obtain ⟨b2, o2, ta, tc, x8, rfl, y0, y1, _, hyl, hyt⟩ := hV j v hv
            have z0 := keep_cell hB02 y0
            have z1 := keep_cell hB02 y1
            cases hq : (v.1.toList == s.toList) with
            | true =>
              have hr : it.vs.findIdx? (isVar s) = some j := findIdx_at hv hq hno
              have hxo := HX.out
              rw [hr] at hxo
              simp only [hv, Option.map_some, Option.getD_some] at hxo
              have HXO := Lib.hid hxo
              have hrow := rowT_of (below_dr hB02) tc hyt
              obtain ⟨m, hm⟩ : ∃ m, v.2.length = m := ⟨_, rfl⟩
              rw [hm] at z1 hrow
              clear hxo hr hm y0 y1 hv
              go_wp2
              go_region
              all_goals
                go_wp2
                exact bodyPost_ret (v := .tuple #[.int .i64 j, .slice ta m tc, .bool true]) (by simp [results, Try.results18, go_sem]) rfl ⟨by rw [HXO.out]; exact varR_yes ⟨_, rfl, hrow⟩, below_dr hB2⟩
            | false =>
              go_wp2
              go_roundw
              case rel =>
                refine ⟨j + 1, by omega, by go_num, trivial, fun r y hr hy => ?_⟩
                by_cases c : r < j
                · exact hno r y c hy
                · obtain rfl : r = j := by omega
                  rw [hv] at hy; injection hy with hy; subst hy; exact hq
              case measure => simp [intOf]; omega
          · obtain rfl : j = n := by omega
            have hr : it.vs.findIdx? (isVar s) = none := findIdx_no fun r y hr hy => hno r y (by have := HN.out; omega) hy
            have hxo := HX.out
            rw [hr] at hxo
            have HXO := Lib.hid hxo
            clear hxo hr
            go_wp2
            exact bodyPost_ret (v := .tuple #[.int .i64 0, .slice none 0 0, .bool false]) (by simp [results, Try.results18, go_sem]) rfl ⟨by rw [HXO.out]; exact varR_no rfl, hB2⟩
      · rw [if_neg h3] at hvt
        have HX := Lib.hid hvt
        have hne : (it.kind != 3) = true := by simp [h3]
        clear hvt
        go_wp2
        exact bodyPost_ret (v := .tuple #[.int .i64 0, .slice none 0 0, .bool false]) (by simp [results, Try.results18, go_sem]) rfl ⟨by rw [HX.out]; exact varR_no rfl, hB2⟩
  · rw [if_neg h9] at hvt
    have HX := Lib.hid hvt
    clear hvt
    go_upto_region 2 with (go_at_call 11; refine hc.mono ?_; rintro e w2 ⟨rfl, hb2⟩)
    have d0 := (hb2.cell (p := ⟨W.heap.size, 0, none⟩) (cell_lt e0)).trans e0
    go_wp2
    exact bodyPost_ret (v := .tuple #[.int .i64 0, .slice none 0 0, .bool false]) (by simp [results, Try.results18, go_sem]) rfl ⟨by rw [HX.out]; exact varR_no rfl, hb1.trans (hb2.mono hb1.size)⟩
end Go.Proofs.Ytioediibbgklcaa.W
