/- borrow.steps: a place's root and steps. -/
import Derived.Test.YtbobnbndbgpanaaChR
import Derived.Test.YtbobnbndbgpanaaChS2
import Derived.Deep.CutBlock
namespace Go.Proofs.Ytbobnbndbgpanaa.W
open Go Go.RowKit Go.Proofs
set_option linter.unusedVariables false
set_option linter.unusedSimpArgs false
theorem rootOf_pre : ∀ (pre l : List Nd), (∀ x ∈ pre, Goes x = true ∧ x.kind ≠ 4) → rootOf (pre ++ l) = (rootOf l).map fun r => (r.1, r.2 ++ pre.reverse)
  | [], l, h => by cases h2 : rootOf l <;> simp [h2]
  | x :: pre, l, h => by
    have h1 := h x (by simp)
    have ih := rootOf_pre pre l (fun y hy => h y (by simp [hy]))
    simp only [List.cons_append, rootOf, if_neg h1.2, h1.1, if_true, ih]
    cases rootOf l <;> simp
/-- What a run over a chain should answer. -/
def Told (l : List Nd) (f : Nd → Int × Int) (r : Int) (ok : Bool) (L : List (Int × Int)) : Prop := match rootOf l with
  | some (r', ns) => ok = true ∧ r = r' ∧ L = ns.map f
  | none => ok = false
theorem own_form2 {W : World} {B e sz n : Nat} {v : Value} {xs : List Value} (h : W.ownsRow B e sz v n xs) : (v = .slice none 0 0 ∧ n = 0) ∨ ∃ g cap, v = .slice (some ⟨g, 0, none⟩) n cap ∧ B ≤ g ∧ n ≤ cap ∧ g < W.heap.size := by
  rcases h.2 with h | ⟨g, cap, cur, h, h2, h3, h4, _⟩
  · exact .inl h
  · exact .inr ⟨g, cap, h, h2, h4, (Array.getElem?_eq_some_iff.1 h3).1⟩
/-- The state within a round: the tree in its box, the row, the step that is made. -/
structure Rd (W : World) (e fb sb : Nat) (cs : List Value) (v : Value) (n : Nat) (xs : List Value) (p q : Int) (wx : World) : Prop where
  box : InBox W fb cs wx
  own : wx.ownsRow W.heap.size e 2 v n xs
  far : ∀ g, v.ownBlock = some g → g < sb
  s : wx.heap[sb]? = some (.cells #[.int .i64 p, .int .i64 q] e (0, 0))
  lt : fb < sb
  ge : W.heap.size ≤ sb
theorem own_lt {W : World} {B e sz n : Nat} {v : Value} {xs : List Value} (h : W.ownsRow B e sz v n xs) : ∀ g, v.ownBlock = some g → g < W.heap.size := fun g hg => (h.lt g hg).2
theorem own_keep {W W' : World} {B e sz n : Nat} {v : Value} {xs : List Value} (h : W.ownsRow B e sz v n xs) (hb : ∀ g, v.ownBlock = some g → W'.heap[g]? = W.heap[g]?) : W'.ownsRow B e sz v n xs := by
  obtain ⟨h1, h2⟩ := h
  refine ⟨h1, ?_⟩
  rcases h2 with h2 | ⟨g, cap, cur, a1, a2, a3, a4⟩
  · exact .inl h2
  · exact .inr ⟨g, cap, cur, a1, a2, by rw [hb g (by rw [a1]; rfl)]; exact a3, a4⟩
theorem Rd.start {W : World} {e fb : Nat} {cs : List Value} {v : Value} {n : Nat} {xs : List Value} {wx : World} (hB : InBox W fb cs wx) (hO : wx.ownsRow W.heap.size e 2 v n xs) (p q : Int) : Rd W e fb wx.heap.size cs v n xs p q (wx.alloc (.cells #[.int .i64 p, .int .i64 q] e)) := by
  have hl : fb < wx.heap.size := (Array.getElem?_eq_some_iff.1 hB.at').1
  have hk : ∀ g, g < wx.heap.size → (wx.alloc (.cells #[.int .i64 p, .int .i64 q] e)).heap[g]? = wx.heap[g]? := fun g hg => ((Below.refl wx.heap.size wx).alloc (Nat.le_refl _) _).block g hg
  exact ⟨⟨(hk fb hl).trans hB.at', hB.bel.alloc hB.bel.size _, hB.ge⟩, own_keep hO (fun g hg => hk g (own_lt hO g hg)), own_lt hO, heap_alloc_new _ _, hl, hB.bel.size⟩
section
variable {W wx : World} {e fb sb : Nat} {cs : List Value} {v : Value} {n : Nat} {xs : List Value} {p q : Int}
theorem Rd.put (h : Rd W e fb sb cs v n xs p q wx) (i : Nat) (u : Value) {p' q' : Int} (hs : ((#[.int .i64 p, .int .i64 q] : Array Value).setIfInBounds i u) = #[.int .i64 p', .int .i64 q']) : Rd W e fb sb cs v n xs p' q' (wx.setCell ⟨sb, i, none⟩ u) := by
  have hk : ∀ g, g ≠ sb → (wx.setCell ⟨sb, i, none⟩ u).heap[g]? = wx.heap[g]? := fun g hg => Below.heap_setCell _ _ _ _ hg
  exact ⟨⟨(hk fb (by have := h.lt; omega)).trans h.box.at', h.box.bel.setCell (p := ⟨sb, i, none⟩) h.ge _, h.box.ge⟩, own_keep h.own (fun g hg => hk g (by have := h.far g hg; omega)), h.far, by rw [← hs]; exact heap_setCell_same _ sb i _ e u h.s, h.lt, h.ge⟩
theorem Rd.cells (h : Rd W e fb sb cs v n xs p q wx) : wx.cell? ⟨sb, 0, none⟩ = some (.int .i64 p) ∧ wx.cell? ⟨sb, 1, none⟩ = some (.int .i64 q) ∧ wx.frozen? ⟨sb, 0, none⟩ = false ∧ wx.frozen? ⟨sb, 1, none⟩ = false := by
  refine ⟨?_, ?_, frozen_of_row _ _ 0 _ e h.s, frozen_of_row _ _ 1 _ e h.s⟩ <;> (rw [cell_of_row _ _ _ _ e (0, 0) h.s]; rfl)
end
/-- What a chain's first tree holds. -/
theorem Ch.head {W : World} {kd x1 nm x6 x8 : Int} {s3 s7 : ByteArray} {ko a5 a9 : Option Addr} {kn kc n5 k5 n9 k9 : Nat} {l : List Nd} (h : Ch W [.int .i64 kd, .int .i64 x1, .int .i64 nm, .string s3, .slice ko kn kc, .slice a5 n5 k5, .int .i64 x6, .string s7, .int .i64 x8, .slice a9 n9 k9] l) :
    ∃ x rest, l = x :: rest ∧ x.kind = kd ∧ x.num = nm ∧ x.kids = kn ∧ kn ≤ 9223372036854775807 ∧ (0 < kn → ∃ b o cs', ko = some ⟨b, o, none⟩ ∧ (∀ i, i < 10 → W.cell? ⟨b, o + i, none⟩ = cs'[i]?) ∧ Ch W cs' rest ∧ b < W.heap.size ∧ (1 < kn → W.cell? ⟨b, o + 10, none⟩ = some (.int .i64 x.k1) ∧ W.cell? ⟨b, o + 12, none⟩ = some (.int .i64 x.n1))) := by
  generalize hcs : [Value.int .i64 kd, .int .i64 x1, .int .i64 nm, .string s3, .slice ko kn kc, .slice a5 n5 k5, .int .i64 x6, .string s7, .int .i64 x8, .slice a9 n9 k9] = cs at h
  cases h with
  | last kd' nm' t ko' kc' =>
    simp at hcs
    obtain ⟨rfl, _, rfl, _, ⟨rfl, rfl, rfl⟩, _⟩ := hcs
    exact ⟨_, [], rfl, rfl, rfl, rfl, by omega, fun h => absurd h (by omega)⟩
  | more kd' nm' t b o nk kc' k1 n1 cs' rest hlen hc h2 hn hch =>
    simp at hcs
    obtain ⟨rfl, _, rfl, _, ⟨rfl, rfl, rfl⟩, _⟩ := hcs
    refine ⟨_, rest, rfl, rfl, rfl, rfl, hn, fun _ => ⟨b, o, cs', rfl, hc, hch, cell_lt ((hc 0 (by omega)).trans (List.getElem?_eq_getElem (by omega))), fun h => ?_⟩⟩
    obtain ⟨z0, z2⟩ := h2 (by omega)
    exact ⟨z0, by rw [Nat.add_assoc] at z2; exact z2⟩
theorem reverse_any (W : World) (B : Nat) (v : Value) (l : List (Int × Int)) (hn : l.length ≤ 300) (hown : W.ownsRow B 34 2 v l.length (flat l)) :
    Calls Try.prog 9 #[v] W fun e w' => e = .returned (.tuple #[]) ∧ w'.ownsRow B 34 2 v l.reverse.length (flat l.reverse) ∧ W.grownBy w' v.ownBlock := by
  rcases own_form2 hown with ⟨rfl, h0⟩ | ⟨g, cap, rfl, hg, hc, _⟩
  · refine (reverse_nil W).mono ?_
    rintro e w' ⟨rfl, hb⟩
    obtain rfl : l = [] := List.eq_nil_of_length_eq_zero h0
    exact ⟨rfl, World.ownsRow_nil _ _ _ _, ⟨hb.os, hb.tape, hb.output, hb.size, fun k hk _ => hb.block k hk⟩⟩
  · refine (reverse_calls W B g l.length cap l rfl hn hown).mono ?_
    rintro e w' ⟨rfl, ho, hgr⟩
    exact ⟨rfl, by rw [List.length_reverse]; exact ho, hgr⟩
theorem Rd.apart {W wx : World} {e fb sb : Nat} {cs : List Value} {v : Value} {n : Nat} {xs : List Value} {p q : Int} (h : Rd W e fb sb cs v n xs p q wx) (he : e ≠ 27) : v.ownBlock ≠ some fb := by
  intro hv
  rcases own_form2 h.own with ⟨rfl, _⟩ | ⟨g, cap, rfl, _⟩
  · simp [Value.ownBlock] at hv
  · simp [Value.ownBlock] at hv
    subst hv
    rcases h.own.2 with ⟨h2, _⟩ | ⟨g', cap', cur, h2, _, h3, _⟩
    · simp at h2
    · injection h2 with h2; injection h2 with h2; injection h2 with h2; subst h2
      rw [h.box.at'] at h3
      simp at h3
      exact he h3.2.symm
theorem info34 : (Try.prog.info? 34).map (fun i => (i.zero, i.size, i.bytes)) = some (some (.agg #[.int .i64 0, .int .i64 0]), 2, 16) := by kernel_rfl
theorem info_parts {P : Program} {e : TypeId} {z : Value} {s b : Nat} (h : (P.info? e).map (fun i => (i.zero, i.size, i.bytes)) = some (some z, s, b)) : ∃ i, P.info? e = some i ∧ i.zero = some z ∧ i.size = s ∧ i.bytes = b := by
  cases hi : P.info? e with
  | none => rw [hi] at h; simp at h
  | some i =>
    rw [hi] at h
    simp at h
    exact ⟨i, rfl, h.1, h.2.1, h.2.2⟩
theorem InBox.alloc {W wx : World} {fb : Nat} {cs : List Value} (h : InBox W fb cs wx) (X : Obj) : InBox W fb cs (wx.alloc X) := by
  have hl : fb < wx.heap.size := (Array.getElem?_eq_some_iff.1 h.at').1
  exact ⟨(((Below.refl wx.heap.size wx).alloc (Nat.le_refl _) X).block fb hl).trans h.at', h.bel.alloc h.bel.size _, h.ge⟩
theorem InBox.grown {W wx wy : World} {fb : Nat} {cs : List Value} {v : Value} (h : InBox W fb cs wx) (hg : wx.grownBy wy v.ownBlock) (hv : v.ownBlock ≠ some fb) (hb : ∀ g, v.ownBlock = some g → W.heap.size ≤ g) : InBox W fb cs wy := by
  have hl : fb < wx.heap.size := (Array.getElem?_eq_some_iff.1 h.at').1
  exact ⟨(hg.block fb hl (fun e => hv e.symm)).trans h.at', h.bel.grown hg h.bel.size hb, h.ge⟩
theorem own_ge {W : World} {B e sz n : Nat} {v : Value} {xs : List Value} (h : W.ownsRow B e sz v n xs) : ∀ g, v.ownBlock = some g → B ≤ g := fun g hg => by
  rcases own_form2 h with ⟨e, _⟩ | ⟨g', cap, e, h2, _⟩ <;> (rw [e] at hg; simp [Value.ownBlock] at hg)
  omega
theorem grown_drew {W w : World} {r : Option Nat} (h : W.drew.grownBy w r) : W.grownBy w r := ⟨h.os, h.tape, h.output, h.size, h.block⟩
theorem own_past {W w : World} {fb n : Nat} {v : Value} {xs : List Value} {c0 c1 c2 c3 c4 c5 c6 c7 c8 c9 v0 v1 v2 v3 v4 v5 v6 v7 v8 v9 : Value} (h : w.ownsRow W.heap.size 34 2 v n xs) (hB : InBox W fb [c0, c1, c2, c3, c4, c5, c6, c7, c8, c9] w) :
    ((((((((((w.setCell ⟨fb, 0, none⟩ v0).setCell ⟨fb, 1, none⟩ v1).setCell ⟨fb, 2, none⟩ v2).setCell ⟨fb, 3, none⟩ v3).setCell ⟨fb, 4, none⟩ v4).setCell ⟨fb, 5, none⟩ v5).setCell ⟨fb, 6, none⟩ v6).setCell ⟨fb, 7, none⟩ v7).setCell ⟨fb, 8, none⟩ v8).setCell ⟨fb, 9, none⟩ v9).ownsRow W.heap.size 34 2 v n xs := by
  refine own_keep h fun g hg => ?_
  have hne : g ≠ fb := by
    rintro rfl
    rcases h.2 with ⟨h2, _⟩ | ⟨g', cap', cur, h2, _, h3, _⟩
    · rw [h2] at hg; simp [Value.ownBlock] at hg
    · rw [h2] at hg
      simp [Value.ownBlock] at hg
      subst hg
      rw [hB.at'] at h3
      simp at h3
  simp only [Below.heap_setCell _ _ _ _ (show g ≠ (⟨fb, _, none⟩ : Addr).block from hne)]
theorem told_var {pre rest : List Nd} {x : Nd} {f : Nd → Int × Int} (hpre : ∀ x ∈ pre, Goes x = true ∧ x.kind ≠ 4) (h : x.kind = 4) : Told (pre ++ x :: rest) f x.num true (pre.map f).reverse := by
  unfold Told
  rw [rootOf_pre _ _ hpre]
  simp [rootOf, h]
theorem told_none {pre rest : List Nd} {x : Nd} {f : Nd → Int × Int} {r : Int} {L : List (Int × Int)} (hpre : ∀ x ∈ pre, Goes x = true ∧ x.kind ≠ 4) (h : x.kind ≠ 4) (hg : Goes x = false) : Told (pre ++ x :: rest) f r false L := by
  unfold Told
  rw [rootOf_pre _ _ hpre]
  simp [rootOf, h, hg]
set_option maxHeartbeats 4000000 in
set_option maxRecDepth 100000 in
theorem steps_calls (W : World) (cs : List Value) (l : List Nd) (h : Ch W cs l) (hlen : l.length ≤ 200) :
    Calls Try.prog 7 #[.agg cs.toArray] W fun e w' => ∃ (r : Int) (v : Value) (ok : Bool) (L : List (Int × Int)), e = .returned (.tuple #[.int .i64 r, v, .bool ok]) ∧ Below W.heap.size W w' ∧ w'.ownsRow W.heap.size 34 2 v L.length (flat L) ∧ L.length ≤ 200 ∧ Told l stC r ok L := by
  have hx : ∃ c0 c1 c2 c3 c4 c5 c6 c7 c8 c9, cs = [c0, c1, c2, c3, c4, c5, c6, c7, c8, c9] := by
    have := h.ten
    match cs, this with
    | [c0, c1, c2, c3, c4, c5, c6, c7, c8, c9], _ => exact ⟨c0, c1, c2, c3, c4, c5, c6, c7, c8, c9, rfl⟩
  obtain ⟨c0, c1, c2, c3, c4, c5, c6, c7, c8, c9, rfl⟩ := hx
  go_enter Try.func7, Try.ntmps7
  go_wp2
  have hb0 : InBox W W.heap.size [c0, c1, c2, c3, c4, c5, c6, c7, c8, c9] (W.alloc (.cells #[c0, c1, c2, c3, c4, c5, c6, c7, c8, c9] 27)) := ⟨heap_alloc_new W _, (Below.refl _ _).alloc (Nat.le_refl _) _, Nat.le_refl _⟩
  obtain ⟨fb, hfb⟩ : ∃ x, W.heap.size = x := ⟨_, rfl⟩
  obtain ⟨wA, hwA⟩ : ∃ x, W.alloc (.cells #[c0, c1, c2, c3, c4, c5, c6, c7, c8, c9] 27) = x := ⟨_, rfl⟩
  rw [hwA] at hb0 ⊢
  have hb1 : InBox W fb [c0, c1, c2, c3, c4, c5, c6, c7, c8, c9] wA := by rw [← hfb]; exact hb0
  rw [hfb]
  clear hb0 hwA
  have HF := Lib.hid hfb
  clear hfb
  go_loopg [3] l.length (fun g v wx => ∃ (cs : List Value) (pre l' : List Nd), g = l'.length ∧ Ch W cs l' ∧ l = pre ++ l' ∧ (∀ x ∈ pre, Goes x = true ∧ x.kind ≠ 4) ∧ InBox W fb cs wx ∧ wx.ownsRow W.heap.size 34 2 v pre.length (flat (pre.map stC)))
  case atStart => exact ⟨_, [], l, rfl, h, rfl, by simp, hb1, World.ownsRow_nil _ _ _ _⟩
  case round =>
    clear hb1 h
    obtain ⟨cs, pre, l', rfl, hch, rfl, hpre, hB, hO⟩ := hrel
    obtain ⟨kd, nm, t, ko, kn, kc, rfl⟩ := hch.form
    obtain ⟨a0, a1, a2, a3, a4, a5, a6, a7, a8, a9⟩ := hB.cells
    go_upto_region 2 with fail
    have hR := Rd.start hB hO kd 0
    obtain ⟨sb, hsb⟩ : ∃ x, wr.heap.size = x := ⟨_, rfl⟩
    obtain ⟨wS, hwS⟩ : ∃ x, wr.alloc (.cells #[.int .i64 kd, .int .i64 0] 34) = x := ⟨_, rfl⟩
    rw [hsb, hwS] at hR
    rw [hsb, hwS]
    have HS := Lib.hid (show Below wr.heap.size wr wS by rw [← hwS]; exact (Below.refl _ _).alloc (Nat.le_refl _) _)
    clear hwS hsb a0 a1 a2 a3 a4 a5 a6 a7 a8 a9 hB hO
    obtain ⟨x, rest, rfl, rfl, rfl, rfl, hkn, hkid⟩ := hch.head
    obtain ⟨a0, a1, a2, a3, a4, a5, a6, a7, a8, a9⟩ := hR.box.cells
    obtain ⟨s0, s1, z0, z1⟩ := hR.cells
    go_upto_block 2 with fail
    go_cut [3, 5, 10] (fun v sp kv wx => v = u3 ∧ sp = .pointer (some ⟨sb, 0, none⟩) ∧ kv = .int .i64 x.kind ∧ (x.kind = 7 ∨ x.kind = 12 ∨ x.kind = 13) ∧ Rd W 34 fb sb [.int .i64 x.kind, .int .i64 t.x1, .int .i64 x.num, .string t.s3, .slice ko x.kids kc, .slice t.a5 t.n5 t.k5, .int .i64 t.x6, .string t.s7, .int .i64 t.x8, .slice t.a9 t.n9 t.k9] u3 pre.length (flat (pre.map stC)) (stC x).1 (stC x).2 wx)
    case first =>
      have hnf := hR.apart (by decide)
      by_cases h4 : x.kind = 4
      · go_wp2_with (go_at_call 9; refine (reverse_any wS W.heap.size _ (pre.map stC) (by simp at hlen ⊢; omega) (by rw [List.length_map]; exact hR.own)).mono ?_; rintro e w1 ⟨rfl, hO1, hG1⟩; have b2 : w1.cell? ⟨fb, 2, none⟩ = some (.int .i64 x.num) := (World.cell?_of_block (hG1.block fb (by have := (Array.getElem?_eq_some_iff.1 hR.box.at').1; exact this) (fun e => hnf e.symm))).trans a2)
        refine bodyPost_ret (v := .tuple #[.int .i64 x.num, u3, .bool true]) (by simp [results, Try.results7, go_sem]) rfl ⟨x.num, u3, true, _, rfl, hR.box.bel.grown hG1 hR.box.bel.size (fun g hg => by rcases own_form2 hR.own with ⟨e, _⟩ | ⟨g', cap, e, h2, _⟩ <;> (rw [e] at hg; simp [Value.ownBlock] at hg); omega), hO1, by simp at hlen ⊢; omega, told_var hpre h4⟩
      · by_cases h12 : x.kind = 12
        · go_wp2
          go_meet
          have e : stC x = (12, x.num) := by simp [stC, h12]
          refine ⟨rfl, rfl, by rw [h12], .inr (.inl h12), ?_⟩
          rw [e]
          exact hR.put 1 (.int .i64 x.num) (by rw [h12]; rfl)
        · by_cases h13 : x.kind = 13
          · go_upto_region 11 with fail
            have hR1 := hR.put 0 (.int .i64 0) rfl
            obtain ⟨w1, hw1⟩ : ∃ y, wS.setCell ⟨sb, 0, none⟩ (.int .i64 0) = y := ⟨_, rfl⟩
            rw [hw1] at hR1 ⊢
            clear a0 a1 a2 a3 a4 a5 a6 a7 a8 a9 s0 s1 z0 z1
            obtain ⟨a0, a1, a2, a3, a4, a5, a6, a7, a8, a9⟩ := hR1.box.cells
            obtain ⟨s0, s1, z0, z1⟩ := hR1.cells
            rcases Nat.lt_or_ge 1 x.kids with hk | hk
            · obtain ⟨b, o, cs', rfl, hc, hch', hbl, h2⟩ := hkid (by omega)
              obtain ⟨k1c, n1c⟩ := h2 hk
              have k1 := (hR1.box.bel.cell (p := ⟨b, o + 10, none⟩) hbl).trans k1c
              have n1 := (hR1.box.bel.cell (p := ⟨b, o + 12, none⟩) hbl).trans n1c
              by_cases e1 : x.k1 = 1
              · go_wp2
                go_meet
                have e : stC x = (13, x.n1) := by simp [stC, h13, e1, hk]
                refine ⟨rfl, rfl, by rw [h13], .inr (.inr h13), ?_⟩
                rw [e]
                exact (hR1.put 0 (.int .i64 13) rfl).put 1 (.int .i64 x.n1) rfl
              · go_wp2
                go_meet
                have e : stC x = (0, 0) := by simp [stC, h13, e1]
                refine ⟨rfl, rfl, by rw [h13], .inr (.inr h13), ?_⟩
                rw [e]
                exact hR1
            · go_wp2
              go_meet
              have e : stC x = (0, 0) := by simp [stC, h13]; intro h; omega
              refine ⟨rfl, rfl, by rw [h13], .inr (.inr h13), ?_⟩
              rw [e]
              exact hR1
          · by_cases h7 : x.kind = 7
            · go_wp2
              go_meet
              have e : stC x = (7, 0) := by simp [stC, h12, h13]
              refine ⟨rfl, rfl, by rw [h7], .inl h7, ?_⟩
              rw [e]
              rw [h7] at hR ⊢
              exact hR
            · go_wp2
              have hg : Goes x = false := by simp [Goes, h7, h12, h13]
              exact bodyPost_ret (v := .tuple #[.int .i64 0, .slice none 0 0, .bool false]) (by simp [results, Try.results7, go_sem]) rfl ⟨0, _, false, [], rfl, hR.box.bel, World.ownsRow_nil _ _ _ _, by simp, told_none hpre h4 hg⟩
    case rest =>
      clear a0 a1 a2 a3 a4 a5 a6 a7 a8 a9 s0 s1 z0 z1 hR HS
      obtain ⟨rfl, rfl, rfl, hk7, hR⟩ := hcut
      obtain ⟨p, hp⟩ : ∃ p, (stC x).1 = p := ⟨_, rfl⟩
      obtain ⟨q, hq⟩ : ∃ q, (stC x).2 = q := ⟨_, rfl⟩
      have HP := Lib.hid (show stC x = (p, q) by rw [← hp, ← hq])
      rw [hp, hq] at hR
      clear hp hq
      obtain ⟨a0, a1, a2, a3, a4, a5, a6, a7, a8, a9⟩ := hR.box.cells
      obtain ⟨s0, s1, z0, z1⟩ := hR.cells
      rcases Nat.eq_zero_or_pos x.kids with h0 | h0
      · go_wp2
        have hg : Goes x = false := by simp [Goes, h0]
        exact bodyPost_ret (v := .tuple #[.int .i64 0, .slice none 0 0, .bool false]) (by simp [results, Try.results7, go_sem]) rfl ⟨0, _, false, [], rfl, hR.box.bel, World.ownsRow_nil _ _ _ _, by simp, told_none hpre (by omega) hg⟩
      · obtain ⟨b, o, cs', rfl, hc, hch', hbl, h2⟩ := hkid h0
        obtain ⟨kd', nm', t', ko', kn', kc', rfl⟩ := hch'.form
        clear hkid h2
        have hOD : wc.ownsRow W.heap.size 34 2 u3 pre.length (flat (pre.map stC)) := hR.own
        have hBX := fun X => hR.box.alloc X
        have hnf := hR.apart (by decide)
        have hge := own_ge hR.own
        have hsz : W.heap.size ≤ wc.heap.size := hR.box.bel.size
        have hpl : pre.length ≤ 200 := by simp at hlen; omega
        obtain ⟨k0, k1, k2, k3, k4, k5, k6, k7, k8, k9⟩ := kid_cells hR.box.bel hc
        have d4 : ∀ X, (wc.alloc X).cell? ⟨fb, 4, none⟩ = some (.slice (some ⟨b, o, none⟩) x.kids kc) := fun X => (hBX X).cells.2.2.2.2.1
        have e0 : ∀ X, (wc.alloc X).cell? ⟨b, o, none⟩ = _ := fun X => (kid_cells (hBX X).bel hc).1
        have e1 : ∀ X, (wc.alloc X).cell? ⟨b, o + 1, none⟩ = _ := fun X => (kid_cells (hBX X).bel hc).2.1
        have e2 : ∀ X, (wc.alloc X).cell? ⟨b, o + 2, none⟩ = _ := fun X => (kid_cells (hBX X).bel hc).2.2.1
        have e3 : ∀ X, (wc.alloc X).cell? ⟨b, o + 3, none⟩ = _ := fun X => (kid_cells (hBX X).bel hc).2.2.2.1
        have e4 : ∀ X, (wc.alloc X).cell? ⟨b, o + 4, none⟩ = _ := fun X => (kid_cells (hBX X).bel hc).2.2.2.2.1
        have e5 : ∀ X, (wc.alloc X).cell? ⟨b, o + 5, none⟩ = _ := fun X => (kid_cells (hBX X).bel hc).2.2.2.2.2.1
        have e6 : ∀ X, (wc.alloc X).cell? ⟨b, o + 6, none⟩ = _ := fun X => (kid_cells (hBX X).bel hc).2.2.2.2.2.2.1
        have e7 : ∀ X, (wc.alloc X).cell? ⟨b, o + 7, none⟩ = _ := fun X => (kid_cells (hBX X).bel hc).2.2.2.2.2.2.2.1
        have e8 : ∀ X, (wc.alloc X).cell? ⟨b, o + 8, none⟩ = _ := fun X => (kid_cells (hBX X).bel hc).2.2.2.2.2.2.2.2.1
        have e9 : ∀ X, (wc.alloc X).cell? ⟨b, o + 9, none⟩ = _ := fun X => (kid_cells (hBX X).bel hc).2.2.2.2.2.2.2.2.2
        obtain ⟨i0, hi, hz0, hz1, hz2⟩ := info_parts info34
        have HB := Lib.hid hBX
        have HC := Lib.hid hc
        have HO := Lib.hid hOD
        have HG := Lib.hid hge
        have HL := Lib.hid hlen
        clear hc hBX hOD hge hlen
        go_upto_region 16 with fail
        go_region_law (
                       refine step_append_own2 rfl (.tmp 50) (.tmp 52) 30 rfl W.heap.size 34 i0 (.agg #[.int .i64 0, .int .i64 0]) 2 16 Try.underlying30 hi hz0 hz1 hz2 rfl (by decide) u3 pre.length (flat (pre.map stC)) (by simp [Act.eval, Act.put]) (HO.out.alloc _) ⟨wc.heap.size, 0, none⟩ 1 1 [.int .i64 p, .int .i64 q] (by simp [Act.eval, Act.put]) rfl (by intro j u hj; match j, hj with | 0, hj => simp at hj; subst hj; simp [Addr.add] | 1, hj => simp at hj; subst hj; simp [Addr.add]) (by intro u hu; simp at hu; rcases hu with rfl | rfl <;> rfl) (by unfold maxLen; omega) (by omega) (by simp; omega) ?_
                       intro v1 w4 hown1 hgrow1 G1
                       have H4 := (HB.out (.cells #[.int .i64 p, .int .i64 q] 34)).grown (grown_drew hgrow1) hnf HG.out
                       obtain ⟨f0, f1, f2, f3, f4, f5, f6, f7, f8, f9⟩ := H4.cells
                       have y0 := H4.froz 0
                       have y1 := H4.froz 1
                       have y2 := H4.froz 2
                       have y3 := H4.froz 3
                       have y4 := H4.froz 4
                       have y5 := H4.froz 5
                       have y6 := H4.froz 6
                       have y7 := H4.froz 7
                       have y8 := H4.froz 8
                       have y9 := H4.froz 9
                       obtain ⟨g0, g1, g2, g3, g4, g5, g6, g7, g8, g9⟩ := kid_cells H4.bel HC.out
                       clear G1)
        all_goals
          go_wp2
          go_roundg rest.length
          case measure => simp
          case rel =>
            refine ⟨_, pre ++ [x], rest, rfl, hch', by simp, ?_, H4.put _ _ _ _ _ _ _ _ _ _, ?_⟩
            · intro y hy
              simp at hy
              rcases hy with hy | rfl
              · exact hpre y hy
              · refine ⟨?_, by omega⟩
                rcases hk7 with h | h | h <;> simp [Goes, h, h0]
            · have e : flat ((pre ++ [x]).map stC) = flat (pre.map stC) ++ [.int .i64 p, .int .i64 q] := by rw [List.map_append, flat_append]; simp [flat, HP.out]
              rw [e, List.length_append]
              exact own_past hown1 H4
end Go.Proofs.Ytbobnbndbgpanaa.W
