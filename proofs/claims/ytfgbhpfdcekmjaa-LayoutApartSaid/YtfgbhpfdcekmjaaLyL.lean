/- layout.Layout: where each local lies, and how many words all have. -/
import Derived.Test.YtfgbhpfdcekmjaaLyP
import Derived.Deep.Slices
namespace Go.Proofs.Ytfgbhpfdcekmjaa.W
open Go Go.RowKit Go.Proofs
set_option linter.unusedVariables false
set_option linter.unusedSimpArgs false
/-- The words of the locals ahead of one. -/
def pre (p : Nat → Bool) (lf : Nat → Int) : Nat → Int
  | 0 => 0
  | k + 1 => pre p lf k + if p k then 0 else max (lf k) 0
theorem pre_bd (p : Nat → Bool) (lf : Nat → Int) : ∀ k, (∀ j, j < k → lf j ≤ 1073741824) → 0 ≤ pre p lf k ∧ pre p lf k ≤ 1073741824 * k
  | 0, _ => by simp [pre]
  | k + 1, h => by
      have ih := pre_bd p lf k fun j hj => h j (by omega)
      have := h k (by omega)
      unfold pre
      split
      · omega
      · constructor <;> omega
/-- Where one lies. -/
def atOf (p : Nat → Bool) (lf : Nat → Int) (k : Nat) : Int := if p k then -1 else pre p lf k
def atL (p : Nat → Bool) (lf : Nat → Int) (k : Nat) : List Value := (List.range k).map fun j => .int .i64 (atOf p lf j)
theorem atL_next (p : Nat → Bool) (lf : Nat → Int) (k : Nat) : atL p lf (k + 1) = atL p lf k ++ [.int .i64 (atOf p lf k)] := by unfold atL; rw [List.range_succ, List.map_append]; rfl
/-- While the locals are laid. -/
structure LS (W0 : World) (fb wb pb gb n : Nat) (lv : Value) (p : Nat → Bool) (x : Int) (wx : World) : Prop where
  words : wx.cell? ⟨wb, 0, none⟩ = some (.int .i64 x)
  wfroz : wx.frozen? ⟨wb, 0, none⟩ = false
  plain : wx.cell? ⟨pb, 0, none⟩ = some (.slice (some ⟨gb, 0, none⟩) n n)
  bools : ∀ k, k < n → wx.cell? ⟨gb, k, none⟩ = some (.bool (p k))
  locs : wx.cell? ⟨fb, 1, none⟩ = some lv
  bel : Below W0.heap.size W0 wx
  lt : fb < wx.heap.size ∧ wb < wx.heap.size ∧ pb < wx.heap.size ∧ gb < wx.heap.size
  ne : wb ≠ fb ∧ wb ≠ pb ∧ wb ≠ gb ∧ W0.heap.size ≤ wb
theorem LS.keep {W0 : World} {fb wb pb gb n : Nat} {lv : Value} {p : Nat → Bool} {x : Int} {wx w' : World} (h : LS W0 fb wb pb gb n lv p x wx) (hs : wx.heap.size ≤ w'.heap.size) (hf : w'.heap[fb]? = wx.heap[fb]?) (hw : w'.heap[wb]? = wx.heap[wb]?) (hp : w'.heap[pb]? = wx.heap[pb]?) (hg : w'.heap[gb]? = wx.heap[gb]?) (hb : Below W0.heap.size W0 w') : LS W0 fb wb pb gb n lv p x w' :=
  ⟨(World.cell?_of_block (w := wx) hw).trans h.words, (World.frozen?_of_block (w := wx) hw).trans h.wfroz, (World.cell?_of_block (w := wx) hp).trans h.plain, fun k hk => (World.cell?_of_block (w := wx) hg).trans (h.bools k hk), (World.cell?_of_block (w := wx) hf).trans h.locs, hb, by have := h.lt; omega, h.ne⟩
theorem LS.set {W0 : World} {fb wb pb gb n : Nat} {lv : Value} {p : Nat → Bool} {x : Int} {wx : World} (h : LS W0 fb wb pb gb n lv p x wx) (y : Int) : LS W0 fb wb pb gb n lv p y (wx.setCell ⟨wb, 0, none⟩ (.int .i64 y)).drew := by
  obtain ⟨n1, n2, n3, n4⟩ := h.ne
  have hs : (wx.setCell ⟨wb, 0, none⟩ (.int .i64 y)).drew.heap.size = wx.heap.size := by
    show (wx.setCell ⟨wb, 0, none⟩ (.int .i64 y)).heap.size = _
    simp [World.setCell]
  have ho : ∀ b o, b ≠ wb → (wx.setCell ⟨wb, 0, none⟩ (.int .i64 y)).cell? ⟨b, o, none⟩ = wx.cell? ⟨b, o, none⟩ := fun b o hne =>
    World.cell?_setCell_other _ _ _ _ (fun e => hne (by injection e with e1 e2; exact e1.symm))
  refine ⟨World.cell?_setCell_same _ _ _ h.words, ?_, (ho _ _ (Ne.symm n2)).trans h.plain, fun k hk => (ho _ _ (Ne.symm n3)).trans (h.bools k hk), (ho _ _ (Ne.symm n1)).trans h.locs, (h.bel.setCell (p := ⟨wb, 0, none⟩) n4 _).drew, by rw [hs]; exact h.lt, h.ne⟩
  show (wx.setCell _ _).frozen? _ = _
  rw [World.frozen?_setCell]; exact h.wfroz
theorem InstrsAt.below {W W' : World} {lo : Option Addr} {ln : Nat} (h : InstrsAt W lo ln) (hb : Below W.heap.size W W') : InstrsAt W' lo ln := by
  obtain ⟨c, _⟩ := bcell hb
  refine ⟨fun hl => ?_⟩
  obtain ⟨b, o, e, hi⟩ := h.is hl
  refine ⟨b, o, e, fun i hil => ?_⟩
  obtain ⟨⟨op, h1⟩, h2, h3⟩ := hi i hil
  exact ⟨⟨op, (c _ _ (cell_lt h1)).trans h1⟩, h2.below hb, h3.below hb⟩
theorem BlocksAt.below {W W' : World} {S : Nat} {bo : Option Addr} {bn : Nat} (h : BlocksAt W S bo bn) (hb : Below W.heap.size W W') : BlocksAt W' S bo bn := by
  obtain ⟨c, _⟩ := bcell hb
  refine ⟨fun hl => ?_⟩
  obtain ⟨b, o, e, hi⟩ := h.is hl
  refine ⟨b, o, e, fun i hil => ?_⟩
  obtain ⟨lo, ln, lc, h1, h2, h3⟩ := hi i hil
  exact ⟨lo, ln, lc, (c _ _ (cell_lt h1)).trans h1, h2, h3.below hb⟩
theorem ls_push {W0 : World} {fb wb pb gb n B1 k : Nat} {lv v : Value} {p : Nat → Bool} {x : Int} {wx w4 : World} {xs : List Value} {X : Obj} (h : LS W0 fb wb pb gb n lv p x wx) (hl : fb < B1 ∧ wb < B1 ∧ pb < B1 ∧ gb < B1) (hB : W0.heap.size ≤ B1) (ho : wx.ownsRow B1 3 1 v k xs) (hs : B1 ≤ wx.heap.size) (hg : (wx.alloc X).grownBy w4 v.ownBlock) :
    LS W0 fb wb pb gb n lv p x w4 ∧ B1 ≤ w4.heap.size := by
  have s4 : wx.heap.size + 1 ≤ w4.heap.size := by have := hg.size; simpa using this
  have blk : ∀ g, g < B1 → w4.heap[g]? = wx.heap[g]? := fun g hg' => (hg.block g (by simp; omega) (fun e => by have := (ho.lt g e.symm).1; omega)).trans (Below.heap_alloc wx X g (by omega))
  exact ⟨h.keep (by omega) (blk _ hl.1) (blk _ hl.2.1) (blk _ hl.2.2.1) (blk _ hl.2.2.2) (h.bel.trans ⟨hg.os, hg.tape, hg.output, by omega, fun g q => blk g (by omega)⟩), by omega⟩
theorem own_low {W : World} {B B' e s n : Nat} {v : Value} {xs : List Value} (h : W.ownsRow B' e s v n xs) (hB : B ≤ B') : W.ownsRow B e s v n xs :=
  ⟨h.1, h.2.imp id fun ⟨g, cap, cur, a, b, c⟩ => ⟨g, cap, cur, a, Nat.le_trans hB b, c⟩⟩
theorem info3 : (Try.prog.info? 3).map (fun i => (i.zero, i.size, i.bytes)) = some (some (.int .i64 0), 1, 8) := by kernel_rfl
set_option maxHeartbeats 4000000 in
set_option maxRecDepth 100000 in
theorem layout_calls (v0 v2 v3 v4 : Value) (la : Option Addr) (n lc : Nat) (lf : Nat → Int) (ba : Option Addr) (bn bc : Nat) (W : World) (hn : n ≤ 100) (hbn : bn ≤ 9223372036854775807)
    (hl : 0 < n → ∃ b o, la = some ⟨b, o, none⟩ ∧ ∀ j, j < n → W.cell? ⟨b, o + j, none⟩ = some (.int .i64 (lf j))) (hlf : ∀ j, j < n → lf j ≤ 1073741824) (hB : BlocksAt W 7 ba bn) :
    Calls Try.prog 7 #[.agg #[v0, .slice la n lc, v2, v3, v4, .slice ba bn bc]] W fun e w' => ∃ av p, e = .returned (.tuple #[av, .int .i64 (pre p lf n)]) ∧ w'.ownsRow W.heap.size 3 1 av n (atL p lf n) ∧ Below W.heap.size W w' := by
  obtain ⟨i0, hi, hz0, hz1, hz2⟩ := info_parts info3
  go_enter Try.func7, Try.ntmps7
  have e1 : ∀ X, (W.alloc X).heap.size = W.heap.size + 1 := fun X => by simp
  have hbX : ∀ X Y, Below W.heap.size W ((W.alloc X).alloc Y) := fun X Y => ((Below.refl _ _).alloc (Nat.le_refl _) _).alloc (by rw [e1]; omega) _
  have hlX : ∀ X Y, 0 < n → ∃ b o, la = some ⟨b, o, none⟩ ∧ ∀ j, j < n → ((W.alloc X).alloc Y).cell? ⟨b, o + j, none⟩ = some (.int .i64 (lf j)) := fun X Y h0 => by
    obtain ⟨b, o, e, hc⟩ := hl h0
    exact ⟨b, o, e, fun j hj => ((bcell (hbX X Y)).1 _ _ (cell_lt (hc j hj))).trans (hc j hj)⟩
  go_upto_region 2 with (go_at_call 8; refine (plain_calls v0 v2 v3 v4 la n lc lf ba bn bc _ hn hbn (hlX _ _) (hB.below (hbX _ _))).mono ?_; rintro e w2 ⟨gb, fb2, rfl, hPS⟩)
  obtain ⟨p, hp⟩ := Go.Deep.choose_lt hPS.bools
  have s2 : W.heap.size + 2 ≤ w2.heap.size := by have := hPS.bel.size; simp at this; omega
  have hg2 : W.heap.size + 2 ≤ gb ∧ gb < w2.heap.size := by have := hPS.geg; have := hPS.ltg; simp at *; omega
  have qf : w2.heap[W.heap.size]? = some (.cells #[v0, .slice la n lc, v2, v3, v4, .slice ba bn bc] 30 (0, 0)) := by
    rw [hPS.bel.block _ (by simp; omega), Below.heap_alloc _ _ _ (by simp)]
    exact heap_alloc_new W _
  have qw : w2.heap[W.heap.size + 1]? = some (.cells #[.int .i64 0] 3 (0, 0)) := by
    rw [hPS.bel.block _ (by simp)]
    have := heap_alloc_new (W.alloc (.cells #[v0, .slice la n lc, v2, v3, v4, .slice ba bn bc] 30)) (.cells #[.int .i64 0] 3)
    rw [e1] at this
    exact this
  have hbA : Below w2.heap.size w2 (w2.alloc (.cells #[.slice (some ⟨gb, 0, none⟩) n n] 35)) := (Below.refl _ _).alloc (Nat.le_refl _) _
  have hLS : LS W W.heap.size (W.heap.size + 1) w2.heap.size gb n (.slice la n lc) p (pre p lf 0) (w2.alloc (.cells #[.slice (some ⟨gb, 0, none⟩) n n] 35)) := by
    obtain ⟨c, f⟩ := bcell hbA
    refine ⟨?_, ?_, ?_, fun k hk => (c _ _ hg2.2).trans (hp k hk), ?_, ((hbX _ _).trans (hPS.bel.mono (hbX _ _).size)).alloc (by omega) _, ⟨by simp; omega, by simp; omega, by simp, by simp; omega⟩, ⟨by omega, by omega, by omega, by omega⟩⟩
    · rw [c _ _ (by omega), cell_of_row _ _ 0 _ 3 (0, 0) qw]; rfl
    · rw [f _ _ (by omega)]; exact frozen_of_row _ _ 0 _ 3 qw
    · rw [cell_of_row _ _ 0 _ 35 (0, 0) (heap_alloc_new w2 _)]; rfl
    · rw [c _ _ (by omega), cell_of_row _ _ 1 _ 30 (0, 0) qf]; rfl
  obtain ⟨B1, hB1⟩ : ∃ x, w2.heap.size + 1 = x := ⟨_, rfl⟩
  have hsA : B1 ≤ (w2.alloc (.cells #[.slice (some ⟨gb, 0, none⟩) n n] 35)).heap.size := by simp; omega
  obtain ⟨wA, hwA⟩ : ∃ x, w2.alloc (.cells #[.slice (some ⟨gb, 0, none⟩) n n] 35) = x := ⟨_, rfl⟩
  obtain ⟨pb, hpb⟩ : ∃ x, w2.heap.size = x := ⟨_, rfl⟩
  rw [hwA] at hLS hsA ⊢
  rw [hpb] at hLS s2 hg2 hB1 ⊢
  have HL := Lib.hid hl
  have HF := Lib.hid hlf
  have hWB : W.heap.size ≤ B1 := by omega
  have lts : W.heap.size < B1 ∧ W.heap.size + 1 < B1 ∧ pb < B1 ∧ gb < B1 := by omega
  clear hPS hp qf qw hbA hwA hl hlf hlX hbX e1 hpb hB1 s2 hg2
  have q1 := hLS.locs
  go_wp2
  go_loopg [2, 13] n (fun g av tk wx => ∃ k : Nat, k ≤ n ∧ g = n - k ∧ tk = .int .i64 k ∧ wx.ownsRow B1 3 1 av k (atL p lf k) ∧ LS W W.heap.size (W.heap.size + 1) pb gb n (.slice la n lc) p (pre p lf k) wx ∧ B1 ≤ wx.heap.size)
  case atStart => exact ⟨0, by omega, rfl, rfl, World.ownsRow_nil _ _ _ _, hLS, hsA⟩
  case round =>
    clear hLS q1 hsA
    obtain ⟨k, hk, rfl, rfl, hown, hS, hsz⟩ := hrel
    by_cases hlt : k < n
    · obtain ⟨lb, lo, rfl, hlc⟩ := HL.out (by omega)
      have k1 := (hS.bel.cell (p := ⟨lb, lo + k, none⟩) (cell_lt (hlc k hlt))).trans (hlc k hlt)
      have kb := hS.bools k hlt
      have hbd := pre_bd p lf k (fun j hj => HF.out j (by omega))
      have hz := HF.out k hlt
      have rlt := hown.lt
      cases hpk : p k with
      | true =>
        rw [hpk] at kb
        have hat : atOf p lf k = -1 := by simp [atOf, hpk]
        have hpr : pre p lf (k + 1) = pre p lf k := by simp [pre, hpk]
        go_wp2_with (first
          | (go_at_call 9; refine (place_plain k pb (W.heap.size + 1) W.heap.size gb 0 0 n 0 (.bool true) (.bool true) (.bool true) (.bool true) (.bool true) _ hlt hS.plain kb).mono ?_; rintro e w3 ⟨rfl, rfl⟩)
          | (at_builtin; refine wpList_append_own _ rfl (.tmp 16) (.tmp 20) 27 rfl B1 3 i0 (.int .i64 0) 1 8 Try.underlying27 hi hz0 hz1 hz2 rfl (by decide) u2 k (atL p lf k) rfl (hown.alloc _) ⟨_, 0, none⟩ 1 1 [.int .i64 (atOf p lf k)] rfl rfl (by intro j u hj; match j, hj with | 0, hj => simp at hj; subst hj; simp [Addr.add, hat] | 1, hj => simp at hj) (by intro u hu; simp at hu; subst hu; rfl) (by unfold maxLen; omega) (by omega) (by simp [World.setCell]; omega) ?_; intro v4 w4 o4 g4 _))
        obtain ⟨r1, r2⟩ := ls_push hS lts hWB hown hsz g4
        go_roundg (n - (k + 1))
        case measure => omega
        case rel => exact ⟨k + 1, by omega, rfl, by go_num, by rw [atL_next]; exact o4, by rw [hpr]; exact r1, r2⟩
      | false =>
        rw [hpk] at kb
        have hat : atOf p lf k = pre p lf k := by simp [atOf, hpk]
        have hpr : pre p lf (k + 1) = pre p lf k + max (lf k) 0 := by simp [pre, hpk]
        obtain ⟨x, hx⟩ : ∃ x, pre p lf k = x := ⟨_, rfl⟩
        rw [hx] at hat hpr hS hbd
        have hw := hS.words
        have HX := Lib.hid hat
        have knew : ∀ y : Value, ((wr.setCell ⟨W.heap.size + 1, 0, none⟩ (.int .i64 (x + max (lf k) 0))).alloc (.cells #[y] 3)).cell? ⟨wr.heap.size, 0, none⟩ = some y := fun y => by
          have e : (wr.setCell ⟨W.heap.size + 1, 0, none⟩ (.int .i64 (x + max (lf k) 0))).heap.size = wr.heap.size := by simp [World.setCell]
          have := heap_alloc_new (wr.setCell ⟨W.heap.size + 1, 0, none⟩ (.int .i64 (x + max (lf k) 0))) (.cells #[y] 3)
          rw [e] at this
          rw [cell_of_row _ _ 0 _ 3 (0, 0) this]; rfl
        go_wp2_with (first
          | (go_at_call 9; refine (place_own k pb (W.heap.size + 1) W.heap.size gb n lc ⟨0, 0, none⟩ lb lo x (lf k) _ hlt hS.plain kb hS.words hS.wfroz hS.locs k1 ⟨hbd.1, by omega⟩ hz).mono ?_; rintro e w3 ⟨rfl, rfl⟩)
          | (at_builtin; refine wpList_append_own _ rfl (.tmp 16) (.tmp 20) 27 rfl B1 3 i0 (.int .i64 0) 1 8 Try.underlying27 hi hz0 hz1 hz2 rfl (by decide) u2 k (atL p lf k) rfl ((World.ownsRow.alloc (show ((wr.setCell ⟨W.heap.size + 1, 0, none⟩ (.int .i64 (x + max (lf k) 0))).drew).ownsRow B1 3 1 u2 k (atL p lf k) from ownsRow_setCell_below hown (by show W.heap.size + 1 < B1; omega) _) _)) ⟨_, 0, none⟩ 1 1 [.int .i64 (atOf p lf k)] rfl rfl (by intro j u hj; match j, hj with | 0, hj => simp at hj; subst hj; simp [Addr.add, hat, knew] | 1, hj => simp at hj) (by intro u hu; simp at hu; subst hu; rfl) (by unfold maxLen; omega) (by omega) (by show B1 ≤ (((wr.setCell ⟨W.heap.size + 1, 0, none⟩ (.int .i64 (x + max (lf k) 0))).alloc _).heap.size); simp [World.setCell]; omega) ?_; intro v4 w4 o4 g4 _))
        have hS3 := hS.set (x + max (lf k) 0)
        have hown3 : ((wr.setCell ⟨W.heap.size + 1, 0, none⟩ (.int .i64 (x + max (lf k) 0))).drew).ownsRow B1 3 1 u2 k (atL p lf k) := ownsRow_setCell_below hown (by show W.heap.size + 1 < B1; omega) _
        have hsz3 : B1 ≤ ((wr.setCell ⟨W.heap.size + 1, 0, none⟩ (.int .i64 (x + max (lf k) 0))).drew).heap.size := by show B1 ≤ (wr.setCell _ _).heap.size; simp [World.setCell]; omega
        obtain ⟨r1, r2⟩ := ls_push hS3 lts hWB hown3 hsz3 g4
        go_roundg (n - (k + 1))
        case measure => omega
        case rel => exact ⟨k + 1, by omega, rfl, by go_num, by rw [atL_next]; exact o4, by rw [hpr]; exact r1, r2⟩
    · obtain rfl : k = n := by omega
      have hw := hS.words
      have hwf := hS.wfroz
      go_wp2
      go_region
      all_goals
        go_wp2
        have kw : (wr.setCell ⟨W.heap.size + 1, 0, none⟩ (.int .i64 (pre p lf k))).cell? ⟨W.heap.size + 1, 0, none⟩ = some (.int .i64 (pre p lf k)) := World.cell?_setCell_same _ _ _ hw
        refine bodyPost_ret (v := .tuple #[u2, .int .i64 (pre p lf k)]) (by simp [results, Try.results7, go_sem, kw]) rfl ⟨u2, p, rfl, ?_, ?_⟩
        · exact own_low (ownsRow_setCell_below hown (by show W.heap.size + 1 < B1; omega) _) hWB
        · exact (hS.set (pre p lf k)).bel
end Go.Proofs.Ytfgbhpfdcekmjaa.W
