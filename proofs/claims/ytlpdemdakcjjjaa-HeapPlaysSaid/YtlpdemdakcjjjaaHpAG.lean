/- The document's heap: Alloc, Free. -/
import Derived.Test.YtlpdemdakcjjjaaHpRR
import Derived.Test.YtlpdemdakcjjjaaHpSK
import Derived.RegionTactic
import Derived.StillTailTactics
import Derived.Laws.AppendOwn
import Derived.Outline
namespace Go.Proofs.Ytlpdemdakcjjjaa.W
open Go Go.RowKit Go.Proofs Go.Proofs.Ytlpdemdakcjjjaa.Sx
set_option linter.unusedVariables false
set_option linter.unusedSimpArgs false
theorem nb_bd' (c : Nat) : 8 ≤ nb c ∧ nb c ≤ 64 := by unfold nb; constructor <;> (repeat' split) <;> omega
theorem szc_bd' (c : Nat) : 4 ≤ szc c ∧ szc c ≤ 128 := by unfold szc; constructor <;> (repeat' split) <;> omega
theorem own_below {W W' : World} {B e sz n : Nat} {v : Value} {xs : List Value} (h : W.ownsRow B e sz v n xs) (hb : Below W.heap.size W W') : W'.ownsRow B e sz v n xs := by
  obtain ⟨h1, h2⟩ := h
  refine ⟨h1, ?_⟩
  rcases h2 with h2 | ⟨g, cap, cur, a1, a2, a3, a4⟩
  · exact .inl h2
  · exact .inr ⟨g, cap, cur, a1, a2, by rw [hb.block g (Array.getElem?_eq_some_iff.1 a3).1]; exact a3, a4⟩
theorem own_row3 {B : Nat} {W : World} {n : Nat} {v : Value} {xs : List Value} (h : W.ownsRow B 61 3 v n xs) : ∀ g, v.ownBlock = some g → B ≤ g := by
  intro g hg
  rcases h.2 with ⟨rfl, _⟩ | ⟨g', cap, cur, rfl, a2, _⟩
  · simp [Value.ownBlock] at hg
  · simp [Value.ownBlock] at hg; omega
theorem own_form {W : World} {B e sz n : Nat} {v : Value} {xs : List Value} (h : W.ownsRow B e sz v (n + 1) xs) : ∃ g cap, v = .slice (some ⟨g, 0, none⟩) (n + 1) cap := by
  rcases h.2 with ⟨_, h⟩ | ⟨g, cap, cur, h, _⟩
  · omega
  · exact ⟨g, cap, h⟩
theorem own_set {W : World} {B e sz n b o : Nat} {u v : Value} {xs : List Value} (h : W.ownsRow B e sz v n xs) (hb : b < B) : (W.setCell ⟨b, o, none⟩ u).ownsRow B e sz v n xs := by
  obtain ⟨h1, h2⟩ := h
  refine ⟨h1, ?_⟩
  rcases h2 with h2 | ⟨g, cap, cur, a1, a2, a3, a4⟩
  · exact .inl h2
  · exact .inr ⟨g, cap, cur, a1, a2, by rw [Below.heap_setCell _ _ _ _ (by show g ≠ b; omega)]; exact a3, a4⟩
/-- The document's rows after one was added. -/
structure Added (B : Nat) (W : World) (rb : Nat) (v : Value) (n : Nat) (xs new : List Value) (W' : World) : Prop where
  size : W.heap.size ≤ W'.heap.size
  rows : ∃ v', W'.cell? ⟨rb, 0, none⟩ = some v' ∧ W'.ownsRow B 61 3 v' (n + 1) (xs ++ new)
  froz : W'.frozen? ⟨rb, 0, none⟩ = false
  rest : ∀ g, g < W.heap.size → g ≠ rb → v.ownBlock ≠ some g → W'.heap[g]? = W.heap[g]?
  same : W'.os = W.os ∧ W'.tape = W.tape ∧ W'.output = W.output
theorem added {B : Nat} {W wr W2 W3 w4 W5 : World} {rb : Nat} {v v' : Value} {n : Nat} {xs new : List Value} {X : Obj} (hrb : rb < B) (hBW : B ≤ W.heap.size) (hB : Below W.heap.size W wr) (hb2 : Below wr.heap.size wr W2) (hb3 : Below W2.heap.size W2.drew W3)
    (hgrow : (W3.alloc X).grownBy w4 v.ownBlock) (hown4 : w4.ownsRow B 61 3 v' (n + 1) (xs ++ new)) (kh : w4.cell? ⟨rb, 0, none⟩ = some v) (kf : w4.frozen? ⟨rb, 0, none⟩ = false)
    (hb5 : Below (w4.setCell ⟨rb, 0, none⟩ v').heap.size (w4.setCell ⟨rb, 0, none⟩ v') W5) : Added B W rb v n xs new W5 := by
  have s1 := hB.size
  have s2 := hb2.size
  have s3 : W2.heap.size ≤ W3.heap.size := hb3.size
  have s4 : W3.heap.size + 1 ≤ w4.heap.size := by have := hgrow.size; simpa using this
  have e5 : (w4.setCell ⟨rb, 0, none⟩ v').heap.size = w4.heap.size := by simp [World.setCell]
  have s5 : w4.heap.size ≤ W5.heap.size := by have := hb5.size; omega
  refine ⟨by omega, ⟨v', ?_, own_below (own_set hown4 hrb) hb5⟩, ?_, ?_, ?_⟩
  · exact ((bcell hb5).1 rb 0 (by omega)).trans (World.cell?_setCell_same _ _ _ kh)
  · exact ((bcell hb5).2 rb 0 (by omega)).trans (by rw [World.frozen?_setCell]; exact kf)
  · intro g h1 h2 h3
    rw [hb5.block g (by omega), Below.heap_setCell _ _ _ _ h2, hgrow.block g (by simp; omega) (fun e => h3 e.symm)]
    have q : (W3.alloc X).heap[g]? = W3.heap[g]? := ((Below.refl W3.heap.size W3).alloc (Nat.le_refl _) X).block g (by omega)
    rw [q, hb3.block g (by omega)]
    show W2.heap[g]? = _
    rw [hb2.block g (by omega), hB.block g h1]
  · exact ⟨hb5.os.trans (hgrow.os.trans (hb3.os.trans (hb2.os.trans hB.os))), hb5.tape.trans (hgrow.tape.trans (hb3.tape.trans (hb2.tape.trans hB.tape))), hb5.output.trans (hgrow.output.trans (hb3.output.trans (hb2.output.trans hB.output)))⟩
theorem info61 : (Try.prog.info? 61).map (fun i => (i.zero, i.size, i.bytes)) = some (some (.agg #[.int .i64 0, .int .i64 0, .int .i64 0]), 3, 24) := by kernel_rfl
set_option maxRecDepth 100000 in
theorem ralloc (rb : Nat) (v : Value) (n : Nat) (av kv wv : Nat → Int) (c : Nat) (hc : c < 4) (w : Int) (W : World) (h : Rows3 W rb v n av kv wv) (B : Nat) (xs : List Value) (hown : W.ownsRow B 61 3 v n xs) (hBW : B ≤ W.heap.size) (hrb : rb < B) (hfz : W.frozen? ⟨rb, 0, none⟩ = false)
    (hw : ∀ W, Calls Try.prog 17 #[.int .i64 w] W fun e W' => e = .returned (.tuple #[.int .i64 c, .int .i64 (szc c), .int .i64 (nb c), .int .i64 0]) ∧ Below W.heap.size W W') :
    Calls Try.prog 15 #[.pointer (some ⟨rb, 0, none⟩), .int .i64 w] W fun e w' =>
      (∃ i : Nat, i < nb c ∧ (∀ j : Nat, j < i → ∃ q, q < n ∧ av q = atc c + 4 * szc c * j) ∧ (∀ q, q < n → av q ≠ atc c + 4 * szc c * i) ∧ e = .returned (.tuple #[.int .i64 (atc c + 4 * szc c * i), .int .i64 0]) ∧ Added B W rb v n xs [.int .i64 (atc c + 4 * szc c * i), .int .i64 c, .int .i64 (szc c)] w') ∨
      ((∀ j : Nat, j < nb c → ∃ q, q < n ∧ av q = atc c + 4 * szc c * j) ∧ e = .returned (.tuple #[.int .i64 0, .int .i64 12]) ∧ Below W.heap.size W w') := by
  obtain ⟨n1, n2⟩ := nb_bd' c
  go_enter Try.func15, Try.ntmps15
  go_wp2_with (go_at_call 17; refine (hw _).mono ?_; rintro e W1 ⟨rfl, hb1⟩)
  have h1 := h.below hb1
  clear hw h
  go_loopw [10] (fun i wr => ∃ k : Nat, k ≤ nb c ∧ i = .int .i64 k ∧ Below W.heap.size W wr ∧ Rows3 wr rb v n av kv wv ∧ wr.ownsRow B 61 3 v n xs ∧ wr.frozen? ⟨rb, 0, none⟩ = false ∧ (∀ j : Nat, j < k → ∃ q, q < n ∧ av q = atc c + 4 * szc c * j)) (fun i _ => nb c - (intOf i).toNat)
  case atStart => exact ⟨0, Nat.zero_le _, rfl, hb1, h1, own_below hown hb1, ((bcell hb1).2 rb 0 (by omega)).trans hfz, fun j hj => by omega⟩
  case round =>
    clear h1 hb1 hown hfz
    obtain ⟨k, hk, rfl, hB, hR, hown, hfz, hall⟩ := hrel
    by_cases hlt : k < nb c
    · go_wp2_with (first | (go_at_call 24; refine (place_any hc hlt _).mono ?_; rintro e W2 ⟨rfl, hb2⟩) | (go_at_call 23; refine (rfind rb v n av kv wv _ _ (hR.below hb2)).mono ?_; rintro e w' ⟨⟨r, rfl, hr⟩, rfl⟩))
      · obtain ⟨hh, hn, hs⟩ := (hR.below hb2)
        obtain ⟨i0, hi, hz0, hz1, hz2⟩ := info_parts info61
        have hnone : ∀ q, q < n → av q ≠ atc c + 4 * szc c * k := by
          rcases hr with ⟨j, j1, j2, j3, j4⟩ | ⟨j1, j2⟩
          · exfalso; omega
          · exact j1
        have hl0 := cell_lt hh
        have hBw : B ≤ w'.drew.heap.size := by have := hB.size; have := hb2.size; show B ≤ w'.heap.size; omega
        have hownW := own_below hown hb2
        have hownD : w'.drew.ownsRow B 61 3 v n xs := hownW
        have hfzD : w'.drew.frozen? ⟨rb, 0, none⟩ = false := ((bcell hb2).2 rb 0 (by have := hB.size; omega)).trans hfz
        have hl1 : rb < w'.drew.heap.size := hl0
        go_region_law (first | (refine step_append_own rfl (.tmp 36) (.tmp 43) 41 rfl B 61 i0 (.agg #[.int .i64 0, .int .i64 0, .int .i64 0]) 3 24 Try.underlying41 hi hz0 hz1 hz2 rfl (by decide) v n xs (by simp [Act.eval, Act.put]) ((own_below hownD hb3).alloc _) ⟨W3.heap.size, 0, none⟩ 1 1 [.int .i64 (atc c + 4 * szc c * k), .int .i64 c, .int .i64 (szc c)] (by simp [Act.eval, Act.put]) rfl (by intro j u hj; match j, hj with | 0, hj => simp at hj; subst hj; simp [Addr.add] | 1, hj => simp at hj; subst hj; simp [Addr.add] | 2, hj => simp at hj; subst hj; simp [Addr.add]) (by intro u hu; simp at hu; rcases hu with rfl | rfl | rfl <;> rfl) (by unfold maxLen; omega) (by omega) (by have := hb3.size; simp; omega) ?_; intro v' w4 hown4 hgrow; have kh : w4.cell? ⟨rb, 0, none⟩ = some v := (World.cell?_of_block (hgrow.block rb (by have := hb3.size; simp; omega) (fun e => by have := own_row3 hownD rb e.symm; omega))).trans (k4 _); have kf : w4.frozen? ⟨rb, 0, none⟩ = false := (World.frozen?_of_block (hgrow.block rb (by have := hb3.size; simp; omega) (fun e => by have := own_row3 hownD rb e.symm; omega))).trans (k5 _); obtain ⟨g', cap', hv'⟩ := own_form hown4; subst hv') | (go_simp; go_at_call 24; refine (place_any hc hlt _).mono ?_; rintro e W3 ⟨rfl, hb3⟩; have k3 : W3.cell? ⟨rb, 0, none⟩ = some v := ((bcell hb3).1 rb 0 hl1).trans hh; have k5 : ∀ X, (W3.alloc X).frozen? ⟨rb, 0, none⟩ = false := fun X => (World.frozen?_alloc_past _ _ _ (by have := hb3.size; omega)).trans (((bcell hb3).2 rb 0 hl1).trans hfzD); have k4 : ∀ X, (W3.alloc X).cell? ⟨rb, 0, none⟩ = some v := fun X => (World.cell?_alloc_past _ _ _ (by have := hb3.size; omega)).trans k3))
        all_goals
          go_wp2_with (go_at_call 24; refine (place_any hc hlt _).mono ?_; rintro e W5 ⟨rfl, hb5⟩)
          refine bodyPost_ret (v := .tuple #[.int .i64 (atc c + 4 * szc c * k), .int .i64 0]) (by simp [results, Try.results15, go_sem]) rfl (.inl ⟨k, hlt, hall, hnone, rfl, added hrb hBW hB hb2 hb3 hgrow hown4 kh kf hb5⟩)
      · go_roundw
        case rel => exact ⟨k + 1, by omega, by go_num, hB.trans (hb2.mono hB.size), hR.below hb2, own_below hown hb2, ((bcell hb2).2 rb 0 (by have := hB.size; omega)).trans hfz, fun j hj => by
          by_cases q : j < k
          · exact hall j q
          · obtain rfl : j = k := by omega
            rcases hr with ⟨j, j1, j2, j3, j4⟩ | ⟨j1, j2⟩
            · exact ⟨j, j1, j2⟩
            · exfalso; omega⟩
        case measure => simp [intOf]; omega
    · obtain rfl : k = nb c := by omega
      go_wp2
      refine bodyPost_ret (v := .tuple #[.int .i64 0, .int .i64 12]) (by simp [results, Try.results15, go_sem]) rfl (.inr ⟨hall, rfl, hB⟩)
end Go.Proofs.Ytlpdemdakcjjjaa.W
namespace Go.Proofs.Ytlpdemdakcjjjaa.W
open Go Go.RowKit Go.Proofs Go.Proofs.Ytlpdemdakcjjjaa.Sx
set_option linter.unusedVariables false
set_option linter.unusedSimpArgs false
/-- The document's Free, of an address that no row bears. -/
theorem rfree_no (rb : Nat) (v : Value) (n : Nat) (av kv wv : Nat → Int) (a : Int) (W : World) (h : Rows3 W rb v n av kv wv) (hno : ∀ j, j < n → av j ≠ a) :
    Calls Try.prog 16 #[.pointer (some ⟨rb, 0, none⟩), .int .i64 a] W fun e w' => e = .returned (.int .i64 13) ∧ w' = W := by
  have hF : Calls Try.prog 23 #[.pointer (some ⟨rb, 0, none⟩), .int .i64 a] W fun e w' => e = .returned (.int .i64 (-1)) ∧ w' = W := by
    refine (rfind rb v n av kv wv a W h).mono ?_
    rintro e w' ⟨⟨r, rfl, ⟨j, j1, j2, _⟩ | ⟨_, rfl⟩⟩, rfl⟩
    · exact absurd j2 (hno j j1)
    · exact ⟨rfl, rfl⟩
  go_enter Try.func16, Try.ntmps16
  go_wp2_with (go_at_call 23; refine hF.mono ?_; rintro e w' ⟨rfl, rfl⟩)
  go_ret
  exact ⟨rfl, rfl⟩
end Go.Proofs.Ytlpdemdakcjjjaa.W
namespace Go.Proofs.Ytlpdemdakcjjjaa.W
open Go Go.RowKit Go.Proofs Go.Proofs.Ytlpdemdakcjjjaa.Sx
set_option linter.unusedVariables false
set_option linter.unusedSimpArgs false
/-- The document's rows after one was taken out. -/
structure Turned (B : Nat) (W : World) (rb : Nat) (n : Nat) (xs : List Value) (W' : World) : Prop where
  size : W.heap.size ≤ W'.heap.size
  rows : ∃ v', W'.cell? ⟨rb, 0, none⟩ = some v' ∧ W'.ownsRow B 61 3 v' n xs
  froz : W'.frozen? ⟨rb, 0, none⟩ = false
  rest : ∀ g, g < W.heap.size → g ≠ rb → W'.heap[g]? = W.heap[g]?
  same : W'.os = W.os ∧ W'.tape = W.tape ∧ W'.output = W.output
theorem turned {B : Nat} {W w5 : World} {rb n : Nat} {v v2 : Value} {xs : List Value} (hrb : rb < W.heap.size) (hrB : rb < B) (hBW : B ≤ W.heap.size) (hb : Below W.heap.size W w5) (ho : w5.ownsRow W.heap.size 61 3 v2 n xs) (kh : w5.cell? ⟨rb, 0, none⟩ = some v) (kf : w5.frozen? ⟨rb, 0, none⟩ = false) :
    Turned B W rb n xs (w5.setCell ⟨rb, 0, none⟩ v2) := by
  refine ⟨?_, ⟨v2, World.cell?_setCell_same _ _ _ kh, own_set (own_base ho hBW) hrB⟩, by rw [World.frozen?_setCell]; exact kf, ?_, ⟨hb.os, hb.tape, hb.output⟩⟩
  · have := hb.size; simpa [World.setCell] using this
  · intro g h1 h2
    rw [Below.heap_setCell _ _ _ _ h2]
    exact hb.block g h1
set_option maxHeartbeats 4000000 in
set_option maxRecDepth 100000 in
theorem rfree_hit (rb g cap n k : Nat) (a : Int) (B : Nat) (xs : List Value) (W : World) (hn : n < 100000) (hk : k < n) (hh : W.cell? ⟨rb, 0, none⟩ = some (.slice (some ⟨g, 0, none⟩) n cap)) (hfz : W.frozen? ⟨rb, 0, none⟩ = false)
    (hown : W.ownsRow B 61 3 (.slice (some ⟨g, 0, none⟩) n cap) n xs) (hone : ∀ u ∈ xs, u.oneCell' = true) (hBW : B ≤ W.heap.size) (hrb : rb < B)
    (hF : Calls Try.prog 23 #[.pointer (some ⟨rb, 0, none⟩), .int .i64 a] W fun e w' => e = .returned (.int .i64 k) ∧ w' = W) :
    Calls Try.prog 16 #[.pointer (some ⟨rb, 0, none⟩), .int .i64 a] W fun e w' => e = .returned (.int .i64 0) ∧ Turned B W rb (n - 1) (xs.take (k * 3) ++ xs.drop ((k + 1) * 3)) w' := by
  go_enter Try.func16, Try.ntmps16
  go_wp2_with (go_at_call 23; refine hF.mono ?_; rintro e w' ⟨rfl, rfl⟩)
  obtain ⟨i0, hi, hz0, hz1, hz2⟩ := info_parts info61
  have hw1 : IntKind.i64.wrap ((k : Int) + 1) = (k : Int) + 1 := w64 _ (by omega) (by omega)
  obtain ⟨hnc, hgl, hBg⟩ := own_cap hown
  have hl0 := cell_lt hh
  have k4 : ∀ X, (w'.alloc X).cell? ⟨rb, 0, none⟩ = some (.slice (some ⟨g, 0, none⟩) n cap) := fun X => (World.cell?_alloc_past _ _ _ (by omega)).trans hh
  have k5 : ∀ X, (w'.alloc X).frozen? ⟨rb, 0, none⟩ = false := fun X => (World.frozen?_alloc_past _ _ _ (by omega)).trans hfz
  have hkc : k ≤ cap := by omega
  have hp0 : (0 : Int) ≤ (k : Int) + 1 := by omega
  have hp1 : (k : Int) + 1 ≤ (n : Int) := by omega
  have hp2 : ((k : Int) + 1).toNat = k + 1 := by omega
  obtain ⟨A, hA⟩ : ∃ A : Addr, (if cap = k + 1 then some (⟨g, 0, none⟩ : Addr) else some ⟨g, (k + 1) * 3, none⟩) = some A := by
    split
    · exact ⟨_, rfl⟩
    · exact ⟨_, rfl⟩
  have O1 := Lib.hid hown
  have T1 := Lib.hid (take_len hown hk)
  have N1 := Lib.hid (fun m => own_one hone m)
  have A1 := Lib.hid hA
  clear hown hone
  go_region_law (first
    | (refine step_append_own2 rfl (.tmp 12) (.tmp 18) 41 rfl w'.heap.size 61 i0 (.agg #[.int .i64 0, .int .i64 0, .int .i64 0]) 3 24 Try.underlying41 hi hz0 hz1 hz2 rfl (by decide) (.slice (some ⟨w'.heap.size, 0, none⟩) 0 0) 0 [] (by simp [Act.eval, Act.put]) (own_empty w' 61 3) ⟨g, 0, none⟩ k cap (xs.take (k * 3)) (by simp [Act.eval, Act.put]) T1.out.1 (own_news O1.out (Below.heap_alloc w' _ g hgl) _) (N1.out (k * 3)).1 (by unfold maxLen; omega) (by omega) (by simp) ?_
       intro v1 w4 hown1 hgrow1 G1
       have hv1 : v1 ≠ .slice none 0 0 := by obtain ⟨_, _, q⟩ := G1.2 (.inl (by simp)); rw [q]; simp
       clear G1
       have kh : w4.cell? ⟨rb, 0, none⟩ = some (.slice (some ⟨g, 0, none⟩) n cap) := (World.cell?_of_block (hgrow1.block rb (by simp; omega) (by simp [Value.ownBlock]; omega))).trans (k4 _)
       have kf : w4.frozen? ⟨rb, 0, none⟩ = false := (World.frozen?_of_block (hgrow1.block rb (by simp; omega) (by simp [Value.ownBlock]; omega))).trans (k5 _)
       have kg : w4.heap[g]? = w'.heap[g]? := (hgrow1.block g (by simp; omega) (by simp [Value.ownBlock]; omega)).trans (Below.heap_alloc w' _ g hgl))
    | (refine step_append_own2 rfl (.tmp 19) (.tmp 26) 41 rfl w'.heap.size 61 i0 (.agg #[.int .i64 0, .int .i64 0, .int .i64 0]) 3 24 Try.underlying41 hi hz0 hz1 hz2 rfl (by decide) v1 (0 + k) ([] ++ xs.take (k * 3)) (by simp [Act.eval, Act.put]) hown1 A (n - (k + 1)) (cap - (k + 1)) (xs.drop ((k + 1) * 3)) (by simp [Act.eval, Act.put]) T1.out.2 (own_tail O1.out hk hnc kg A1.out) (N1.out ((k + 1) * 3)).2 (by unfold maxLen; omega) (by omega) (by have := hgrow1.size; simp at this; omega) ?_
       intro v2 w5 hown2 hgrow2 G2
       obtain ⟨g2, cap2, hv2⟩ := G2.2 (.inl hv1)
       have rbn : some rb ≠ v1.ownBlock := fun e => by have := (hown1.lt rb e.symm).1; omega
       have kh2 : w5.cell? ⟨rb, 0, none⟩ = some (.slice (some ⟨g, 0, none⟩) n cap) := (World.cell?_of_block (hgrow2.block rb (by have := hgrow1.size; simp at this; omega) rbn)).trans kh
       have kf2 : w5.frozen? ⟨rb, 0, none⟩ = false := (World.frozen?_of_block (hgrow2.block rb (by have := hgrow1.size; simp at this; omega) rbn)).trans kf
       subst hv2))
  all_goals
    go_wp2_with fail
    go_ret
    have q := own_out hk hgrow1 hown1 hgrow2 hown2
    simp only [Nat.zero_add] at q
    exact ⟨rfl, turned hl0 hrb hBW q.1 q.2 kh2 kf2⟩
end Go.Proofs.Ytlpdemdakcjjjaa.W
