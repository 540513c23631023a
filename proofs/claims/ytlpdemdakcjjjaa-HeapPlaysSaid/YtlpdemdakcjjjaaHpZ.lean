/- HeapPlays: the walk. -/
import Derived.Test.YtlpdemdakcjjjaaHpZ1
import Derived.Deep.RegionHeld3
import Derived.Deep.CutBlock
import Derived.Test.YtlpdemdakcjjjaaHpO
namespace Go.Proofs.Ytlpdemdakcjjjaa.W
open Go Go.RowKit Go.Proofs Go.Proofs.Ytlpdemdakcjjjaa.Sx
set_option linter.unusedVariables false
set_option linter.unusedSimpArgs false
theorem names_calls (W : World) : Calls Try.prog 14 #[] W fun e w' => e = .returned (.bool true) ∧ w' = W := by
  go_enter Try.func14, Try.ntmps14
  go_wp2
  go_ret
  exact ⟨rfl, rfl⟩
set_option maxHeartbeats 100000000 in
set_option maxRecDepth 100000 in
theorem plays_core (aa : Option Addr) (an ac : Nat) (f0 f1 f2 f3 : Nat → Int) (W : World)
    (hacts : 0 < an → ∃ b o, aa = some ⟨b, o, none⟩ ∧ ∀ j, j < an → W.cell? ⟨b, o + j * 4, none⟩ = some (.int .i64 (f0 j)) ∧ W.cell? ⟨b, o + j * 4 + 1, none⟩ = some (.int .i64 (f1 j)) ∧ W.cell? ⟨b, o + j * 4 + 2, none⟩ = some (.int .i64 (f2 j)) ∧ W.cell? ⟨b, o + j * 4 + 3, none⟩ = some (.int .i64 (f3 j))) :
    Calls Try.prog 6 #[.slice aa an ac] W fun e w' => e = .returned (.bool true) ∧ Below W.heap.size W w' := by
  go_enter Try.func6, Try.ntmps6
  go_wp2_with (first | (go_at_call 13; refine (new_any _).mono ?_; rintro e W1 ⟨hb, bs, rfl, hI, hB1⟩) | (go_at_call 14; refine (names_calls _).mono ?_; rintro e w' ⟨rfl, rfl⟩))
  obtain ⟨i0, hi, hz0, hz1, hz2⟩ := info_parts info3
  have hP : Pl W.heap.size (W1.heap.size + 1) hb bs W1.heap.size := ⟨by have := hB1.size; omega, by have := hI.ltH; omega, fun c hc => by have := hI.ltB c hc; omega, by omega, hI.newB, hB1.size, by have := hI.ltH; omega, fun c hc => by have := hI.ltB c hc; omega⟩
  have hS0 : St W (W1.heap.size + 1) hb bs W1.heap.size 0 #[] (W1.alloc (.cells #[.slice none 0 0] 43)) (fun _ _ => false) [] (.slice none 0 0) [] := by
    have hb0 : Below W1.heap.size W1 (W1.alloc (.cells #[.slice none 0 0] 43)) := (Below.refl _ _).alloc (Nat.le_refl _) _
    refine ⟨hI.below hb0, ⟨⟨.slice none 0 0, ?_, World.ownsRow_nil _ _ _ _⟩, ?_⟩, World.ownsRow_nil _ _ _ _, .inl rfl, hB1.trans (hb0.mono hB1.size), by simp⟩
    · rw [cell_of_row _ W1.heap.size 0 _ 43 (0, 0) (heap_alloc_new W1 _)]; simp
    · exact frozen_of_row _ W1.heap.size 0 _ 43 (heap_alloc_new W1 _)
  obtain ⟨rb, hrb⟩ : ∃ x, W1.heap.size = x := ⟨_, rfl⟩
  obtain ⟨B1, hB1e⟩ : ∃ x, W1.heap.size + 1 = x := ⟨_, rfl⟩
  rw [hB1e] at hP hS0
  rw [hrb] at hP hS0 ⊢
  clear hI hB1 hB1e hrb
  go_loopg [5, 6] 300 (fun g tv i wx => ∃ (k : Nat) (u : Nat → Nat → Bool) (L : List (Nat × Nat)) (ts : List Int) (ab : Nat) (A : Array Value), k ≤ 300 ∧ k ≤ an ∧ g = 300 - k ∧ i = .int .i64 k ∧ Held u L ∧ L.length ≤ k ∧ ts.length ≤ k ∧ St W B1 hb bs rb ab A wx u L tv ts)
  case atStart => exact ⟨0, _, [], [], 0, #[], by omega, by omega, rfl, rfl, Held.none, by simp, by simp, hS0⟩
  case round =>
    clear hS0
    obtain ⟨k, u, L, ts, ab0, A0, hk, hkn, rfl, rfl, hH, hLk, htk, hS⟩ := hrel
    obtain ⟨w0, rfl⟩ : ∃ y, y = wr := ⟨_, rfl⟩
    by_cases hlt : k < an ∧ k < 300
    · obtain ⟨h1, h2⟩ := hlt
      obtain ⟨sb, so, rfl, hsc⟩ := hacts (by omega)
      obtain ⟨c0, c1, c2, c3⟩ := hsc k h1
      have k0 := (hS.bel.cell (p := ⟨sb, so + k * 4, none⟩) (cell_lt c0)).trans c0
      have k1 := (hS.bel.cell (p := ⟨sb, so + k * 4 + 1, none⟩) (cell_lt c1)).trans c1
      have k2 := (hS.bel.cell (p := ⟨sb, so + k * 4 + 2, none⟩) (cell_lt c2)).trans c2
      have k3 := (hS.bel.cell (p := ⟨sb, so + k * 4 + 3, none⟩) (cell_lt c3)).trans c3
      obtain ⟨y0, hy0⟩ : ∃ y, f0 k = y := ⟨_, rfl⟩
      obtain ⟨y1, hy1⟩ : ∃ y, f1 k = y := ⟨_, rfl⟩
      obtain ⟨y2, hy2⟩ : ∃ y, f2 k = y := ⟨_, rfl⟩
      obtain ⟨y3, hy3⟩ : ∃ y, f3 k = y := ⟨_, rfl⟩
      rw [hy0] at k0
      rw [hy1] at k1
      rw [hy2] at k2
      rw [hy3] at k3
      clear c0 c1 c2 c3 hy0 hy1 hy2 hy3 hsc
      have HS := Lib.hid hacts
      clear hacts
      go_upto_region 9 with fail
      have hS1 := hS.newAct #[.int .i64 y0, .int .i64 y1, .int .i64 y2, .int .i64 y3]
      obtain ⟨ab, hab⟩ : ∃ y, w0.heap.size = y := ⟨_, rfl⟩
      obtain ⟨w1, hw1⟩ : ∃ y, w0.alloc (.cells #[.int .i64 y0, .int .i64 y1, .int .i64 y2, .int .i64 y3] 46) = y := ⟨_, rfl⟩
      rw [hab, hw1] at hS1
      rw [hw1, hab]
      clear hab hw1 hS k0 k1 k2 k3
      obtain ⟨q0, q1, q2, q3⟩ := hS1.cells
      go_upto_block 2 with fail
      go_cut [5, 8] (fun tv at' wx => ∃ (u2 : Nat → Nat → Bool) (L2 : List (Nat × Nat)) (ts2 : List Int) (x : Int), Held u2 L2 ∧ L2.length ≤ k + 1 ∧ ts2.length ≤ k + 1 ∧ at' = .int .i64 x ∧ St W B1 hb bs rb ab #[.int .i64 y0, .int .i64 y1, .int .i64 y2, .int .i64 y3] wx u2 L2 tv ts2)
      case first =>
        as_aux_lemma =>
          cases e0 : (y0 == 0) with
          | true =>
            as_aux_lemma =>
              obtain ⟨x, f, u', L', hH', hL', ha, hr⟩ := alloc_both hH (by omega) y1
              go_wp2_with (first
                | (go_at_call 9; refine (ha _ _ _ _ hS1.hp).mono ?_; rintro e w2 ⟨rfl, hI2, hF2⟩; have hS2 := hS1.heap hP hI2 hF2; obtain ⟨q0, q1, q2, q3⟩ := hS2.cells)
                | (go_at_call 15; refine (hr _ _ _ hS2.rows hS2.sz hP.hR).mono ?_; rintro e w3 ⟨rfl, hR3, hO3⟩; have hS3 := hS2.ref hP hR3 hO3; obtain ⟨q0, q1, q2, q3⟩ := hS3.cells)
                | (at_builtin; refine wpList_append_own2 rfl (.tmp 72) (.tmp 74) 25 rfl B1 3 i0 (.int .i64 0) 1 8 Try.underlying25 hi hz0 hz1 hz2 rfl (by decide) u5 ts.length (intL ts) rfl (hS3.told.alloc _) ⟨w3.heap.size, 0, none⟩ 1 1 [.int .i64 x] rfl rfl (by intro j u hj; match j, hj with | 0, hj => simp at hj; subst hj; simp [Addr.add] | 1, hj => simp at hj) (by intro u hu; simp at hu; subst hu; rfl) (by unfold maxLen; omega) (by omega) (by have := hS3.sz; simp; omega) ?_; intro v4 w4 o4 g4 f4))
              go_meet
              exact ⟨u', L', ts ++ [x], x, hH', by omega, by simp; omega, rfl, hS3.push hP g4 o4⟩
          | false =>
            cases e1 : (y0 == 1) with
            | true =>
              obtain ⟨tao, tc, rfl, hto⟩ := own_shape hS1.told
              by_cases ht : 0 < ts.length
              · obtain ⟨tg, rfl⟩ := hto ht
                obtain ⟨t, htl, hte⟩ := turn_of y2 ts.length (by omega) (by omega)
                have kt : w1.cell? ⟨tg, t, none⟩ = some (.int .i64 ts[t]) := own_cell hS1.told htl (by simp [intL, htl])
                as_aux_lemma =>
                  obtain ⟨r, u', L', hH', hL', ha, hr⟩ := free_both hH (by omega) (ts[t])
                  go_wp2_with (first
                    | (go_at_call 10; refine (ha _ _ _ _ hS1.hp).mono ?_; rintro e w2 ⟨rfl, hI2, hF2⟩; have hS2 := hS1.heap hP hI2 hF2; obtain ⟨q0, q1, q2, q3⟩ := hS2.cells)
                    | (go_at_call 16; refine (hr _ _ _ hS2.rows hS2.sz hP.hR).mono ?_; rintro e w3 ⟨rfl, hR3, hO3⟩; have hS3 := hS2.ref hP hR3 hO3; obtain ⟨q0, q1, q2, q3⟩ := hS3.cells))
                  go_meet
                  exact ⟨u', L', ts, _, hH', by omega, by omega, rfl, hS3⟩
              · as_aux_lemma =>
                  obtain ⟨r, u', L', hH', hL', ha, hr⟩ := free_both hH (by omega) (y3)
                  go_wp2_with (first
                    | (go_at_call 10; refine (ha _ _ _ _ hS1.hp).mono ?_; rintro e w2 ⟨rfl, hI2, hF2⟩; have hS2 := hS1.heap hP hI2 hF2; obtain ⟨q0, q1, q2, q3⟩ := hS2.cells)
                    | (go_at_call 16; refine (hr _ _ _ hS2.rows hS2.sz hP.hR).mono ?_; rintro e w3 ⟨rfl, hR3, hO3⟩; have hS3 := hS2.ref hP hR3 hO3; obtain ⟨q0, q1, q2, q3⟩ := hS3.cells))
                  go_meet
                  exact ⟨u', L', ts, _, hH', by omega, by omega, rfl, hS3⟩
            | false =>
              cases e2 : (y0 == 2) with
              | true =>
                as_aux_lemma =>
                  obtain ⟨r, u', L', hH', hL', ha, hr⟩ := free_both hH (by omega) (y3)
                  go_wp2_with (first
                    | (go_at_call 10; refine (ha _ _ _ _ hS1.hp).mono ?_; rintro e w2 ⟨rfl, hI2, hF2⟩; have hS2 := hS1.heap hP hI2 hF2; obtain ⟨q0, q1, q2, q3⟩ := hS2.cells)
                    | (go_at_call 16; refine (hr _ _ _ hS2.rows hS2.sz hP.hR).mono ?_; rintro e w3 ⟨rfl, hR3, hO3⟩; have hS3 := hS2.ref hP hR3 hO3; obtain ⟨q0, q1, q2, q3⟩ := hS3.cells))
                  go_meet
                  exact ⟨u', L', ts, _, hH', by omega, by omega, rfl, hS3⟩
              | false =>
                go_wp2
                go_meet
                exact ⟨u, L, ts, _, hH, by omega, by omega, rfl, hS1⟩
      case rest =>
        as_aux_lemma =>
          obtain ⟨u2, L2, ts2, x, hH2, hL2, ht2, rfl, hS2⟩ := hcut
          obtain ⟨w2, rfl⟩ : ∃ y, y = wc := ⟨_, rfl⟩
          obtain ⟨q0, q1, q2, q3⟩ := hS2.cells
          clear hH hLk htk hS1
          go_upto_region 26 with (first
            | (go_at_call 8; refine (class_calls y1 _).mono ?_; rintro e w5 ⟨rfl, hb5⟩; have hS5 := hS2.below hb5; obtain ⟨q0, q1, q2, q3⟩ := hS5.cells)
            | (go_at_call 17; refine (rclass_calls y1 _).mono ?_; rintro e w6 ⟨rfl, hb6⟩; have hS6 := hS5.below hb6; obtain ⟨q0, q1, q2, q3⟩ := hS6.cells))
          obtain ⟨m, hl1, hl2⟩ := live_both hH2 (by omega) y2
          obtain ⟨r1, ha1, ha2⟩ := within_both hH2 (by omega) x y1
          obtain ⟨r2, hc1, hc2⟩ := within_both hH2 (by omega) y3 1
          have hSof : ∀ X, St W B1 hb bs rb ab #[.int .i64 y0, .int .i64 y1, .int .i64 y2, .int .i64 y3] X u2 L2 u5 ts2 → (fun X => X.cell? ⟨ab, 1, none⟩ = some (.int .i64 y1) ∧ X.cell? ⟨ab, 2, none⟩ = some (.int .i64 y2) ∧ X.cell? ⟨ab, 3, none⟩ = some (.int .i64 y3) ∧ St W B1 hb bs rb ab #[.int .i64 y0, .int .i64 y1, .int .i64 y2, .int .i64 y3] X u2 L2 u5 ts2) X := fun X h => ⟨h.cells.2.1, h.cells.2.2.1, h.cells.2.2.2, h⟩
          have Ca : ∀ X, St W B1 hb bs rb ab #[.int .i64 y0, .int .i64 y1, .int .i64 y2, .int .i64 y3] X u2 L2 u5 ts2 → Calls Try.prog 11 #[.pointer (some ⟨hb, 0, none⟩), .int .i64 y2] X fun e X' => e = .returned (.int .i64 m) ∧ St W B1 hb bs rb ab #[.int .i64 y0, .int .i64 y1, .int .i64 y2, .int .i64 y3] X' u2 L2 u5 ts2 := fun X h => (hl1 _ _ _ _ h.hp).mono fun e X' ⟨p1, p2⟩ => ⟨p1, h.below p2⟩
          have Cb : ∀ X, St W B1 hb bs rb ab #[.int .i64 y0, .int .i64 y1, .int .i64 y2, .int .i64 y3] X u2 L2 u5 ts2 → Calls Try.prog 18 #[.pointer (some ⟨rb, 0, none⟩), .int .i64 y2] X fun e X' => e = .returned (.int .i64 m) ∧ St W B1 hb bs rb ab #[.int .i64 y0, .int .i64 y1, .int .i64 y2, .int .i64 y3] X' u2 L2 u5 ts2 := fun X h => (hl2 _ _ _ h.rows).mono fun e X' ⟨p1, p2⟩ => ⟨p1, h.below p2⟩
          have Cc : ∀ X, St W B1 hb bs rb ab #[.int .i64 y0, .int .i64 y1, .int .i64 y2, .int .i64 y3] X u2 L2 u5 ts2 → Calls Try.prog 12 #[.pointer (some ⟨hb, 0, none⟩), .int .i64 x, .int .i64 y1] X fun e X' => e = .returned (.bool r1) ∧ St W B1 hb bs rb ab #[.int .i64 y0, .int .i64 y1, .int .i64 y2, .int .i64 y3] X' u2 L2 u5 ts2 := fun X h => (ha1 _ _ _ _ h.hp).mono fun e X' ⟨p1, p2⟩ => ⟨p1, h.below p2⟩
          have Cd : ∀ X, St W B1 hb bs rb ab #[.int .i64 y0, .int .i64 y1, .int .i64 y2, .int .i64 y3] X u2 L2 u5 ts2 → Calls Try.prog 19 #[.pointer (some ⟨rb, 0, none⟩), .int .i64 x, .int .i64 y1] X fun e X' => e = .returned (.bool r1) ∧ St W B1 hb bs rb ab #[.int .i64 y0, .int .i64 y1, .int .i64 y2, .int .i64 y3] X' u2 L2 u5 ts2 := fun X h => (ha2 _ _ _ h.rows).mono fun e X' ⟨p1, p2⟩ => ⟨p1, h.below p2⟩
          have Ce : ∀ X, St W B1 hb bs rb ab #[.int .i64 y0, .int .i64 y1, .int .i64 y2, .int .i64 y3] X u2 L2 u5 ts2 → Calls Try.prog 12 #[.pointer (some ⟨hb, 0, none⟩), .int .i64 y3, .int .i64 1] X fun e X' => e = .returned (.bool r2) ∧ St W B1 hb bs rb ab #[.int .i64 y0, .int .i64 y1, .int .i64 y2, .int .i64 y3] X' u2 L2 u5 ts2 := fun X h => (hc1 _ _ _ _ h.hp).mono fun e X' ⟨p1, p2⟩ => ⟨p1, h.below p2⟩
          have Cf : ∀ X, St W B1 hb bs rb ab #[.int .i64 y0, .int .i64 y1, .int .i64 y2, .int .i64 y3] X u2 L2 u5 ts2 → Calls Try.prog 19 #[.pointer (some ⟨rb, 0, none⟩), .int .i64 y3, .int .i64 1] X fun e X' => e = .returned (.bool r2) ∧ St W B1 hb bs rb ab #[.int .i64 y0, .int .i64 y1, .int .i64 y2, .int .i64 y3] X' u2 L2 u5 ts2 := fun X h => (hc2 _ _ _ h.rows).mono fun e X' ⟨p1, p2⟩ => ⟨p1, h.below p2⟩
          clear hl1 hl2 ha1 ha2 hc1 hc2 q0 q1 q2 q3
          obtain ⟨w7, rfl⟩ : ∃ y, y = w6 := ⟨_, rfl⟩
          go_cut [177] (fun b wx => b = .bool false ∧ St W B1 hb bs rb ab #[.int .i64 y0, .int .i64 y1, .int .i64 y2, .int .i64 y3] wx u2 L2 u5 ts2)
          case first =>
            have hT' := hS6.drew
            go_region_held3 (fun X => X.cell? ⟨ab, 1, none⟩ = some (.int .i64 y1) ∧ X.cell? ⟨ab, 2, none⟩ = some (.int .i64 y2) ∧ X.cell? ⟨ab, 3, none⟩ = some (.int .i64 y3) ∧ St W B1 hb bs rb ab #[.int .i64 y0, .int .i64 y1, .int .i64 y2, .int .i64 y3] X u2 L2 u5 ts2) (first | exact hSof _ hT') (first
              | (go_at_call 11; refine (Ca _ hT').mono ?_; rintro e w8 ⟨rfl, hT'⟩)
              | (go_at_call 18; refine (Cb _ hT').mono ?_; rintro e w8 ⟨rfl, hT'⟩)
              | (go_at_call_of 12 (Value.int IntKind.i64 x); refine (Cc _ hT').mono ?_; rintro e w8 ⟨rfl, hT'⟩)
              | (go_at_call_of 19 (Value.int IntKind.i64 x); refine (Cd _ hT').mono ?_; rintro e w8 ⟨rfl, hT'⟩)
              | (go_at_call_of 12 (Value.int IntKind.i64 y3); refine (Ce _ hT').mono ?_; rintro e w8 ⟨rfl, hT'⟩)
              | (go_at_call_of 19 (Value.int IntKind.i64 y3); refine (Cf _ hT').mono ?_; rintro e w8 ⟨rfl, hT'⟩))
            all_goals
              go_wp2_with fail
              go_meet
              exact ⟨by simp, hT'⟩
          case rest =>
            obtain ⟨rfl, hT⟩ := hcut
            go_wp2
            go_roundg (300 - (k + 1))
            case measure => omega
            case rel => exact ⟨k + 1, u2, L2, ts2, ab, _, by omega, by omega, rfl, by go_num, hH2, hL2, ht2, hT⟩
    · by_cases h1 : k < an
      · obtain rfl : k = 300 := by omega
        go_wp2
        go_ret
        exact ⟨rfl, hS.bel⟩
      · go_wp2
        go_ret
        exact ⟨rfl, hS.bel⟩
theorem plays_walk {H : Type} {enc : TypeId × Value → H} {W' : World} {base : Nat} {d0 : DataW H} {p0 : List MemPlace} (v0 : Value) (hv0 : Value.okWide Try.prog W' .any base 39 v0) (h0 : DataW.Trod enc Try.prog W' 0 (fun _ => true) true 39 v0 d0 p0) (W : World) (e : W = W') :
    Calls Try.prog 6 #[v0] W fun e w' => e = .returned (.bool true) ∧ Below W.heap.size W w' := by
  subst e
  obtain ⟨a0, n0, c0, f0, f1, f2, f3, rfl, g0⟩ := open_acts hv0 h0
  exact plays_core a0 n0 c0 f0 f1 f2 f3 W g0.lies
end Go.Proofs.Ytlpdemdakcjjjaa.W
