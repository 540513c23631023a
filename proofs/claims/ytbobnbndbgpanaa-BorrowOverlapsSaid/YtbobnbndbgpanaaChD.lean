/- The document's Steps: a place's root and steps. -/
import Derived.Test.YtbobnbndbgpanaaChE
namespace Go.Proofs.Ytbobnbndbgpanaa.W
open Go Go.RowKit Go.Proofs
set_option linter.unusedVariables false
set_option linter.unusedSimpArgs false
set_option maxHeartbeats 4000000 in
set_option maxRecDepth 100000 in
theorem Steps_calls : ∀ (l : List Nd) (W : World) (cs : List Value) (h : Ch W cs l) (hlen : l.length ≤ 200),
    Calls Try.prog 8 #[.agg cs.toArray] W fun e w' => ∃ (r : Int) (v : Value) (ok : Bool) (L : List (Int × Int)), e = .returned (.tuple #[.int .i64 r, v, .bool ok]) ∧ Below W.heap.size W w' ∧ w'.ownsRow W.heap.size 39 2 v L.length (flat L) ∧ L.length ≤ l.length ∧ Told l stR r ok L := by
  intro l
  induction l with
  | nil => intro W cs h hlen; cases h
  | cons x rest ih =>
    intro W cs h hlen
    obtain ⟨kd, nm, t, ko, kn, kc, rfl⟩ := h.form
    obtain ⟨x', rest', hx, rfl, rfl, rfl, hkn, hkid⟩ := h.head
    injection hx with hx1 hx2
    subst hx1
    subst hx2
    go_enter Try.func8, Try.ntmps8
    go_upto_region 1 with fail
    have hb0 : InBox W W.heap.size [.int .i64 x.kind, .int .i64 t.x1, .int .i64 x.num, .string t.s3, .slice ko x.kids kc, .slice t.a5 t.n5 t.k5, .int .i64 t.x6, .string t.s7, .int .i64 t.x8, .slice t.a9 t.n9 t.k9] (W.alloc (.cells #[.int .i64 x.kind, .int .i64 t.x1, .int .i64 x.num, .string t.s3, .slice ko x.kids kc, .slice t.a5 t.n5 t.k5, .int .i64 t.x6, .string t.s7, .int .i64 t.x8, .slice t.a9 t.n9 t.k9] 27)) := ⟨heap_alloc_new W _, (Below.refl _ _).alloc (Nat.le_refl _) _, Nat.le_refl _⟩
    obtain ⟨fb, hfb⟩ : ∃ x, W.heap.size = x := ⟨_, rfl⟩
    obtain ⟨wA, hwA⟩ : ∃ y, W.alloc (.cells #[.int .i64 x.kind, .int .i64 t.x1, .int .i64 x.num, .string t.s3, .slice ko x.kids kc, .slice t.a5 t.n5 t.k5, .int .i64 t.x6, .string t.s7, .int .i64 t.x8, .slice t.a9 t.n9 t.k9] 27) = y := ⟨_, rfl⟩
    rw [hwA] at hb0 ⊢
    have hB : InBox W fb [.int .i64 x.kind, .int .i64 t.x1, .int .i64 x.num, .string t.s3, .slice ko x.kids kc, .slice t.a5 t.n5 t.k5, .int .i64 t.x6, .string t.s7, .int .i64 t.x8, .slice t.a9 t.n9 t.k9] wA := by rw [← hfb]; exact hb0
    rw [hfb]
    clear hb0 hwA
    have HF := Lib.hid hfb
    clear hfb
    obtain ⟨a0, a1, a2, a3, a4, a5, a6, a7, a8, a9⟩ := hB.cells
    by_cases h4 : x.kind = 4
    · go_wp2
      exact bodyPost_ret (v := .tuple #[.int .i64 x.num, .slice none 0 0, .bool true]) (by simp [results, Try.results8, go_sem]) rfl ⟨x.num, _, true, [], rfl, hB.bel, World.ownsRow_nil _ _ _ _, by simp, told_var (pre := []) (by simp) h4⟩
    · go_upto_region 3 with fail
      go_cut [32] (fun tv wx => tv = .bool (!Goes x) ∧ wA = wx)
      case first =>
        by_cases h7 : x.kind = 7
        · rcases Nat.eq_zero_or_pos x.kids with h0 | h0
          · go_wp2
            go_meet
            exact ⟨by simp [Goes, h0], rfl⟩
          · go_wp2
            go_meet
            exact ⟨by simp [Goes, h0, h7]; omega, rfl⟩
        · by_cases h12 : x.kind = 12
          · rcases Nat.eq_zero_or_pos x.kids with h0 | h0
            · go_wp2
              go_meet
              exact ⟨by simp [Goes, h0], rfl⟩
            · go_wp2
              go_meet
              exact ⟨by simp [Goes, h0, h12]; omega, rfl⟩
          · by_cases h13 : x.kind = 13
            · rcases Nat.eq_zero_or_pos x.kids with h0 | h0
              · go_wp2
                go_meet
                exact ⟨by simp [Goes, h0], rfl⟩
              · go_wp2
                go_meet
                exact ⟨by simp [Goes, h0, h13]; omega, rfl⟩
            · go_wp2
              go_meet
              exact ⟨by simp [Goes, h7, h12, h13], rfl⟩
      case rest =>
        obtain ⟨rfl, rfl⟩ := hcut
        cases hg : Goes x with
        | false =>
          go_wp2
          exact bodyPost_ret (v := .tuple #[.int .i64 0, .slice none 0 0, .bool false]) (by simp [results, Try.results8, go_sem]) rfl ⟨0, _, false, [], rfl, hB.bel, World.ownsRow_nil _ _ _ _, by simp, told_none (pre := []) (by simp) h4 hg⟩
        | true =>
          have h0 : 0 < x.kids := by simp [Goes] at hg; exact hg.2
          obtain ⟨b, o, cs', rfl, hc, hch', hbl, h2⟩ := hkid h0
          obtain ⟨kd', nm', t', ko', kn', kc', rfl⟩ := hch'.form
          clear hkid
          obtain ⟨k0, k1, k2, k3, k4, k5, k6, k7, k8, k9⟩ := kid_cells hB.bel hc
          have hrl : rest.length ≤ 200 := by simp at hlen; omega
          have hch2 := hch'.keep hB.bel
          go_upto_region 6 with (go_at_call 8; refine (ih _ _ hch2 hrl).mono ?_; rintro e w1 ⟨r, v, ok, L, rfl, hb1, hO1, hL1, hT1⟩)
          have hB1 := hB.keep hb1
          have hO2 := own_base hO1 hB.bel.size
          clear a0 a1 a2 a3 a4 a5 a6 a7 a8 a9 k0 k1 k2 k3 k4 k5 k6 k7 k8 k9 hc hb1 hO1 hch2 hch' ih hB
          go_upto_region 7 with fail
          have hR := Rd.start hB1 hO2 4 0
          obtain ⟨sb, hsb⟩ : ∃ x, w1.heap.size = x := ⟨_, rfl⟩
          obtain ⟨wS, hwS⟩ : ∃ x, w1.alloc (.cells #[.int .i64 4, .int .i64 0] 39) = x := ⟨_, rfl⟩
          rw [hsb, hwS] at hR
          rw [hsb, hwS]
          clear hwS hsb hB1 hO2
          obtain ⟨a0, a1, a2, a3, a4, a5, a6, a7, a8, a9⟩ := hR.box.cells
          obtain ⟨s0, s1, z0, z1⟩ := hR.cells
          go_upto_if 45 with fail
          go_cut [0, 8] (fun av sp wx => sp = .pointer (some ⟨sb, 0, none⟩) ∧ Rd W 39 fb sb [.int .i64 x.kind, .int .i64 t.x1, .int .i64 x.num, .string t.s3, .slice (some ⟨b, o, none⟩) x.kids kc, .slice t.a5 t.n5 t.k5, .int .i64 t.x6, .string t.s7, .int .i64 t.x8, .slice t.a9 t.n9 t.k9] v L.length (flat L) (if x.kind = 12 then 1 else 4) (if x.kind = 12 then x.num else 0) wx)
          case first =>
            by_cases h12 : x.kind = 12
            · go_wp2
              go_meet
              refine ⟨rfl, ?_⟩
              rw [if_pos h12, if_pos h12]
              exact (hR.put 0 (.int .i64 1) rfl).put 1 (.int .i64 x.num) rfl
            · go_wp2
              go_meet
              refine ⟨rfl, ?_⟩
              rw [if_neg h12, if_neg h12]
              exact hR
          case rest =>
            clear a0 a1 a2 a3 a4 a5 a6 a7 a8 a9 s0 s1 z0 z1 hR
            obtain ⟨rfl, hR⟩ := hcut
            obtain ⟨p, hp⟩ : ∃ p : Int, (if x.kind = 12 then 1 else 4) = p := ⟨_, rfl⟩
            obtain ⟨q, hq⟩ : ∃ q, (if x.kind = 12 then x.num else 0) = q := ⟨_, rfl⟩
            rw [hp, hq] at hR
            have HP := Lib.hid hp
            have HQ := Lib.hid hq
            clear hp hq
            obtain ⟨wS, rfl⟩ : ∃ y, y = wc := ⟨_, rfl⟩
            obtain ⟨a0, a1, a2, a3, a4, a5, a6, a7, a8, a9⟩ := hR.box.cells
            obtain ⟨s0, s1, z0, z1⟩ := hR.cells
            go_upto_if 51 with fail
            go_cut [0, 8] (fun av sp wx => sp = .pointer (some ⟨sb, 0, none⟩) ∧ Rd W 39 fb sb [.int .i64 x.kind, .int .i64 t.x1, .int .i64 x.num, .string t.s3, .slice (some ⟨b, o, none⟩) x.kids kc, .slice t.a5 t.n5 t.k5, .int .i64 t.x6, .string t.s7, .int .i64 t.x8, .slice t.a9 t.n9 t.k9] v L.length (flat L) (stR x).1 (stR x).2 wx)
            case first =>
              by_cases h13 : x.kind = 13
              · go_upto_region 11 with fail
                have hR1 := (hR.put (p' := 3) 0 (.int .i64 3) rfl).put (q' := 0) 1 (.int .i64 0) rfl
                obtain ⟨w1, hw1⟩ : ∃ y, (wS.setCell ⟨sb, 0, none⟩ (.int .i64 3)).setCell ⟨sb, 1, none⟩ (.int .i64 0) = y := ⟨_, rfl⟩
                rw [hw1] at hR1 ⊢
                clear a0 a1 a2 a3 a4 a5 a6 a7 a8 a9 s0 s1 z0 z1
                obtain ⟨a0, a1, a2, a3, a4, a5, a6, a7, a8, a9⟩ := hR1.box.cells
                obtain ⟨s0, s1, z0, z1⟩ := hR1.cells
                rcases Nat.lt_or_ge 1 x.kids with hk | hk
                · obtain ⟨k1c, n1c⟩ := h2 hk
                  have k1 := (hR1.box.bel.cell (p := ⟨b, o + 10, none⟩) hbl).trans k1c
                  have n1 := (hR1.box.bel.cell (p := ⟨b, o + 12, none⟩) hbl).trans n1c
                  by_cases e1 : x.k1 = 1
                  · go_wp2
                    go_meet
                    have e : stR x = (2, x.n1) := by simp [stR, h13, e1, hk]
                    refine ⟨rfl, ?_⟩
                    rw [e]
                    exact (hR1.put 0 (.int .i64 2) rfl).put 1 (.int .i64 x.n1) rfl
                  · go_wp2
                    go_meet
                    have e : stR x = (3, 0) := by simp [stR, h13, e1]
                    refine ⟨rfl, ?_⟩
                    rw [e]
                    exact hR1
                · go_wp2
                  go_meet
                  have e : stR x = (3, 0) := by simp [stR, h13]; intro h; omega
                  refine ⟨rfl, ?_⟩
                  rw [e]
                  exact hR1
              · go_wp2
                go_meet
                refine ⟨rfl, ?_⟩
                have e : stR x = (p, q) := by
                  rw [← HP.out, ← HQ.out]
                  by_cases h12 : x.kind = 12 <;> simp [stR, h12, h13]
                rw [e]
                exact hR
            case rest =>
              clear a0 a1 a2 a3 a4 a5 a6 a7 a8 a9 s0 s1 z0 z1 hR HP HQ
              obtain ⟨rfl, hR⟩ := hcut
              obtain ⟨p, hp⟩ : ∃ p, (stR x).1 = p := ⟨_, rfl⟩
              obtain ⟨q, hq⟩ : ∃ q, (stR x).2 = q := ⟨_, rfl⟩
              have HP := Lib.hid (show stR x = (p, q) by rw [← hp, ← hq])
              rw [hp, hq] at hR
              clear hp hq
              obtain ⟨a0, a1, a2, a3, a4, a5, a6, a7, a8, a9⟩ := hR.box.cells
              obtain ⟨s0, s1, z0, z1⟩ := hR.cells
              go_upto_region 13 with fail
              refine wp_onN (region13 _ _ _ _ _ _ _ _ _ _ _ _ _ _ _ _ _ _ _ _ _ _ _ _ _ _ _ _ _ _ _ _ _ _ _ _ _ _ _ _ _ _ _ _ _ _ _ _ _ _ _ _ _ _ _ _ _ _ _ _ _ _ _ _ _ _ _ _ _ _ _ _ _ _ _ r v ok sb L.length W.heap.size L p q _ hR.own (by omega) s0 s1 (Array.getElem?_eq_some_iff.1 hR.s).1) ?_
              rintro a w2 ⟨v', s71, s72, s73, s74, s75, s76, s77, s78, rfl, hO3, hB3⟩
              go_wp2
              have e : flat (L ++ [stR x]) = flat L ++ [.int .i64 p, .int .i64 q] := by rw [flat_append, HP.out]; rfl
              refine bodyPost_ret (v := .tuple #[.int .i64 r, v', .bool ok]) (by simp [results, Try.results8, go_sem]) rfl ⟨r, v', ok, L ++ [stR x], rfl, hR.box.bel.trans (hB3.mono hR.box.bel.size), ?_, by simp; omega, ?_⟩
              · rw [e, List.length_append]
                exact own_base hO3 hR.box.bel.size
              · unfold Told at hT1 ⊢
                simp only [rootOf, if_neg h4, hg, if_true]
                cases hr : rootOf rest with
                | none => rw [hr] at hT1; simpa using hT1
                | some rr => rw [hr] at hT1; obtain ⟨q1, q2, q3⟩ := hT1; exact ⟨q1, q2, by rw [q3]; simp⟩
end Go.Proofs.Ytbobnbndbgpanaa.W
