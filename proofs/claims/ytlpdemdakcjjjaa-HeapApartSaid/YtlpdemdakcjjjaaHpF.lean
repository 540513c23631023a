/- HeapFills: the walk. -/
import Derived.Test.YtlpdemdakcjjjaaHpC
import Derived.Outline
import Derived.Laws.AppendOwn
import Derived.Laws.Bits128
namespace Go.Proofs.Ytlpdemdakcjjjaa.W
open Go Go.RowKit Go.Proofs Go.Proofs.Ytlpdemdakcjjjaa.Sx
set_option linter.unusedVariables false
set_option linter.unusedSimpArgs false
theorem nb_bd (c : Nat) : 8 ≤ nb c ∧ nb c ≤ 64 := by unfold nb; constructor <;> (repeat' split) <;> omega
theorem szc_bd (c : Nat) : 4 ≤ szc c ∧ szc c ≤ 128 := by unfold szc; constructor <;> (repeat' split) <;> omega
theorem atc_bd (c : Nat) : 262144 ≤ atc c ∧ atc c ≤ 269312 := by unfold atc; constructor <;> (repeat' split) <;> omega
theorem class_c {c : Nat} (hc : c < 4) {w : Int} (hw : InClass c w) (W : World) : Calls Try.prog 8 #[.int .i64 w] W fun e W' => e = .returned (.tuple #[.int .i64 c, .int .i64 (szc c), .int .i64 (nb c), .int .i64 0]) ∧ Below W.heap.size W W' := by
  have h := class_calls w W
  obtain ⟨h1, h2, h3⟩ := hw
  have e2 : clsS w = szc c := by
    unfold clsK at h1; unfold clsS szc
    match c, hc with
    | 0, _ => repeat' split at h1 <;> simp at h1 <;> (repeat' split) <;> omega
    | 1, _ => repeat' split at h1 <;> simp at h1 <;> (repeat' split) <;> omega
    | 2, _ => repeat' split at h1 <;> simp at h1 <;> (repeat' split) <;> omega
    | 3, _ => repeat' split at h1 <;> simp at h1 <;> (repeat' split) <;> omega
  have e3 : clsB w = (nb c : Int) := by
    unfold clsK at h1; unfold clsB nb
    match c, hc with
    | 0, _ => repeat' split at h1 <;> simp at h1 <;> (repeat' split) <;> omega
    | 1, _ => repeat' split at h1 <;> simp at h1 <;> (repeat' split) <;> omega
    | 2, _ => repeat' split at h1 <;> simp at h1 <;> (repeat' split) <;> omega
    | 3, _ => repeat' split at h1 <;> simp at h1 <;> (repeat' split) <;> omega
  have e4 : clsE w = 0 := by unfold clsE; rw [if_pos h2, if_pos h3]
  rw [h1, e2, e3, e4] at h
  exact h
theorem class_of (w : Int) (h0 : 0 ≤ w) (h1 : w ≤ 128) : ∃ c, c < 4 ∧ InClass c w := by
  unfold InClass clsK
  by_cases a : w ≤ 4
  · exact ⟨0, by omega, by rw [if_pos h0, if_pos a]; rfl, h0, h1⟩
  · by_cases b : w ≤ 16
    · exact ⟨1, by omega, by rw [if_pos h0, if_neg a, if_pos b]; rfl, h0, h1⟩
    · by_cases d : w ≤ 64
      · exact ⟨2, by omega, by rw [if_pos h0, if_neg a, if_neg b, if_pos d]; rfl, h0, h1⟩
      · exact ⟨3, by omega, by rw [if_pos h0, if_neg a, if_neg b, if_neg d, if_pos h1]; rfl, h0, h1⟩
/-- Where a class's block begins. -/
def adr (c k : Nat) : Int := atc c + 4 * szc c * k
theorem adr_next (c k : Nat) : adr c (k + 1) = adr c k + 4 * szc c := by
  unfold adr
  rw [Int.natCast_add, Int.mul_add]; simp; omega
theorem adr_bd (c k : Nat) (hk : k ≤ nb c) : 262144 ≤ adr c k ∧ adr c k ≤ 273408 := by
  unfold adr atc szc
  unfold nb at hk
  by_cases h0 : c = 0
  · subst h0; simp at hk ⊢; omega
  · by_cases h1 : c = 1
    · subst h1; simp at hk ⊢; omega
    · by_cases h2 : c = 2
      · subst h2; simp at hk ⊢; omega
      · simp [h0, h1, h2] at hk ⊢; omega
theorem adr_ne (c k : Nat) : (adr c (k + 1) != adr c k + 4 * szc c) = false := by rw [adr_next]; simp
/-- The addresses that were told. -/
def adrs (c k : Nat) : List Value := (List.range k).map fun j => Value.int .i64 (adr c j)
theorem adrs_next (c k : Nat) : adrs c (k + 1) = adrs c k ++ [.int .i64 (adr c k)] := by unfold adrs; rw [List.range_succ, List.map_append]; rfl
theorem info3 : (Try.prog.info? 3).map (fun i => (i.zero, i.size, i.bytes)) = some (some (.int .i64 0), 1, 8) := by kernel_rfl
theorem own_fr {b B : Nat} {W W' : World} {e n : Nat} {v : Value} {xs : List Value} (h : W.ownsRow B e 1 v n xs) (hf : Fr b W W') (hb : b < B) : W'.ownsRow B e 1 v n xs := by
  obtain ⟨h1, h2⟩ := h
  refine ⟨h1, ?_⟩
  rcases h2 with h2 | ⟨g, cap, cur, a1, a2, a3, a4, a5, a6, a7⟩
  · exact .inl h2
  · refine .inr ⟨g, cap, cur, a1, a2, ?_, a4, a5, a6, a7⟩
    have hg : g < W.heap.size := (Array.getElem?_eq_some_iff.1 a3).1
    rw [hf.block g hg (by omega)]; exact a3
theorem own_cell {B : Nat} {W : World} {g cap n : Nat} {xs : List Value} (h : W.ownsRow B 3 1 (.slice (some ⟨g, 0, none⟩) n cap) n xs) {j : Nat} (hj : j < n) {v : Value} (hx : xs[j]? = some v) : W.cell? ⟨g, j, none⟩ = some v := by
  obtain ⟨h1, h2⟩ := h
  rcases h2 with ⟨h2, _⟩ | ⟨g', cap', cur, a1, a2, a3, a4, a5, a6, a7⟩
  · cases h2
  · injection a1 with b1 b2 b3
    injection b1 with b1; injection b1 with b1 _ _
    subst b1
    have : cur[j]? = some v := by
      rw [← a7] at hx
      rw [← Array.getElem?_toList]
      rw [List.getElem?_take] at hx
      split at hx
      · exact hx
      · simp at hx
    simp [World.cell?, a3, this]
theorem HpAt.grown {B B2 : Nat} {W W' : World} {hb : Nat} {bs : Nat → Nat} {u : Nat → Nat → Bool} (h : HpAt B W hb bs u) {row : Option Nat} (hg : W.grownBy W' row) (hr : ∀ g, row = some g → B2 ≤ g) (h1 : hb < B2) (h2 : ∀ c, c < 4 → bs c < B2) : HpAt B W' hb bs u :=
  h.keep hg.size (hg.block _ h.ltH (fun e => by have := hr _ e.symm; omega)) fun c hc => hg.block _ (h.ltB c hc) (fun e => by have := hr _ e.symm; have := h2 c hc; omega)
theorem own_row {B : Nat} {W : World} {n : Nat} {v : Value} {xs : List Value} (h : W.ownsRow B 3 1 v n xs) : ∀ g, v.ownBlock = some g → B ≤ g := by
  intro g hg
  rcases h.2 with ⟨rfl, _⟩ | ⟨g', cap, cur, rfl, a2, _⟩
  · simp [Value.ownBlock] at hg
  · simp [Value.ownBlock] at hg; omega
/-- While the class is filled. -/
def fillU (c k : Nat) : Nat → Nat → Bool := fun d j => decide (d = c ∧ j < k)
theorem fill_next (c k : Nat) : upd (fillU c k) c k true = fillU c (k + 1) := by
  funext d j
  unfold upd fillU
  by_cases e : d = c ∧ j = k
  · obtain ⟨rfl, rfl⟩ := e; simp
  · rw [if_neg e]
    apply decide_eq_decide.2
    constructor
    · rintro ⟨h1, h2⟩; exact ⟨h1, by omega⟩
    · rintro ⟨h1, h2⟩; exact ⟨h1, by have : j ≠ k := fun q => e ⟨h1, q⟩; omega⟩
theorem fill_step {W W2 wr W3 w4 : World} {hb : Nat} {bs : Nat → Nat} {c k : Nat} {v v' : Value} (hc : c < 4) (hl : hb < W2.heap.size) (hl2 : ∀ c, c < 4 → bs c < W2.heap.size) (hW : W.heap.size ≤ W2.heap.size)
    (hI3 : HpAt W.heap.size W3 hb bs (fillU c (k + 1))) (hF3 : Fr (bs c) wr W3) (hB : Below W.heap.size W wr) (hsz : W2.heap.size ≤ wr.heap.size) (hown : wr.ownsRow W2.heap.size 3 1 v k (adrs c k)) {X : Obj}
    (hgrow : (W3.alloc X).grownBy w4 v.ownBlock) (hown4 : w4.ownsRow W2.heap.size 3 1 v' (k + 1) (adrs c k ++ [Value.int IntKind.i64 (adr c k)])) :
    HpAt W.heap.size w4 hb bs (fillU c (k + 1)) ∧ w4.ownsRow W2.heap.size 3 1 v' (k + 1) (adrs c (k + 1)) ∧ Below W.heap.size W w4 ∧ W2.heap.size ≤ w4.heap.size := by
  have hr := own_row hown
  have s3 := hF3.size
  have s4 : W3.heap.size + 1 ≤ w4.heap.size := by have := hgrow.size; simpa using this
  have hb3 : Below W3.heap.size W3 (W3.alloc X) := (Below.refl _ _).alloc (Nat.le_refl _) _
  refine ⟨(hI3.below hb3).grown hgrow hr hl hl2, by rw [adrs_next]; exact hown4, ?_, by omega⟩
  have h1 : Below W.heap.size wr W3 := hF3.below (hI3.newB c hc) (by omega)
  exact (((hB.trans h1).alloc (by omega) _).grown hgrow (by simp; omega) (fun g hg => by have := hr g hg; omega))
theorem alloc_fill {B : Nat} {W : World} {hb : Nat} {bs : Nat → Nat} {c k : Nat} (h : HpAt B W hb bs (fillU c k)) (hc : c < 4) (hk : k < nb c) {w : Int} (hw : InClass c w) :
    Calls Try.prog 9 #[.pointer (some ⟨hb, 0, none⟩), .int .i64 w] W fun e W' => e = .returned (.tuple #[.int .i64 (adr c k), .int .i64 0]) ∧ HpAt B W' hb bs (fillU c (k + 1)) ∧ Fr (bs c) W W' := by
  refine (alloc_any h hc hw).mono ?_
  rintro e W' (⟨i, h1, h2, h3, h4, h5, h6⟩ | ⟨h1, _⟩)
  · have hik : i = k := by
      have a : ¬ i < k := by simpa [fillU] using h2
      by_cases b : k < i
      · have := h3 k b; simp [fillU] at this
      · omega
    subst hik
    rw [fill_next] at h5
    exact ⟨h4, h5, h6⟩
  · have := h1 k hk; simp [fillU] at this
theorem alloc_full {B : Nat} {W : World} {hb : Nat} {bs : Nat → Nat} {c : Nat} (h : HpAt B W hb bs (fillU c (nb c))) (hc : c < 4) {w : Int} (hw : InClass c w) :
    Calls Try.prog 9 #[.pointer (some ⟨hb, 0, none⟩), .int .i64 w] W fun e W' => e = .returned (.tuple #[.int .i64 0, .int .i64 12]) ∧ HpAt B W' hb bs (fillU c (nb c)) ∧ Fr (bs c) W W' := by
  refine (alloc_any h hc hw).mono ?_
  rintro e W' (⟨i, h1, h2, h3, h4, h5, h6⟩ | ⟨_, h4, h5, h6⟩)
  · have : ¬ i < nb c := by simpa [fillU] using h2
    omega
  · exact ⟨h4, h5, h6⟩
theorem cnt_fill (c n : Nat) : ∀ k, k ≤ n → cnt (fillU c n c) k = k
  | 0, _ => rfl
  | k + 1, h => by rw [cnt_true (by simp [fillU]; omega), cnt_fill c n k (by omega)]
theorem mod2 {a n : Nat} (h : a < 2 * n) : a % n = if a < n then a else a - n := by
  split
  · rename_i h1; exact Nat.mod_eq_of_lt h1
  · rename_i h1
    rw [Nat.mod_eq_sub_mod (by omega), Nat.mod_eq_of_lt (by omega)]
theorem turn_t (a : Int) (n : Nat) (h1 : 8 ≤ n) (h2 : n ≤ 64) : ∃ t : Nat, t < n ∧ (wrap64 (a.tmod n + n)).tmod n = t := by
  have hn : (0 : Int) < n := by omega
  have b1 : -(n : Int) < a.tmod n := by
    rcases Int.le_total 0 a with h | h
    · have := Int.tmod_nonneg (n : Int) h; omega
    · have e : a.tmod n = -((-a).tmod n) := by rw [Int.neg_tmod]; simp
      have := Int.tmod_lt_of_pos (-a) hn
      omega
  have b2 : a.tmod n < n := Int.tmod_lt_of_pos _ hn
  have e : wrap64 (a.tmod n + n) = a.tmod n + n := by unfold wrap64; omega
  rw [e]
  have c1 : 0 ≤ (a.tmod n + n).tmod n := Int.tmod_nonneg _ (by omega)
  have c2 : (a.tmod n + n).tmod n < n := Int.tmod_lt_of_pos _ hn
  exact ⟨((a.tmod n + n).tmod n).toNat, by omega, by omega⟩
theorem turn_at (t k n : Nat) (h1 : t < n) (h2 : k < n) (h3 : n ≤ 64) : (wrap64 ((t : Int) + k)).tmod n = (((t + k) % n : Nat) : Int) ∧ ((t : Int) + k).tmod n = (((t + k) % n : Nat) : Int) := by
  have e : wrap64 ((t : Int) + k) = (t : Int) + k := by unfold wrap64; omega
  have : ((t : Int) + k).tmod n = (((t + k) % n : Nat) : Int) := rfl
  exact ⟨by rw [e, this], this⟩
theorem turn_hit {t k n : Nat} (h1 : t < n) (h2 : k < n) : ((t + k) % n + n - t) % n = k := by
  rw [mod2 (a := t + k) (n := n) (by omega)]
  split
  · rw [mod2 (by omega)]; split <;> omega
  · rw [mod2 (by omega)]; split <;> omega
theorem turn_only {t j k n : Nat} (h1 : t < n) (h2 : j < n) (h3 : (j + n - t) % n = k) : j = (t + k) % n := by
  rw [mod2 (by omega)] at h3
  split at h3
  · rw [mod2 (by omega)]; split <;> omega
  · rw [mod2 (by omega)]; split <;> omega
/-- While the class is let go, from block `t` on. -/
def Gone (u : Nat → Bool) (n t k : Nat) : Prop := (∀ j, j < n → u j = decide (k ≤ (j + n - t) % n)) ∧ cnt u n = n - k
theorem cnt_pos {u : Nat → Bool} {p : Nat} (hp : u p = true) : ∀ {n : Nat}, p < n → 1 ≤ cnt u n
  | 0, h => by omega
  | n + 1, h => by
      by_cases e : p = n
      · subst e; rw [cnt_true hp]; omega
      · have := cnt_pos hp (n := n) (by omega)
        unfold cnt; split <;> omega
theorem cnt_off (u : Nat → Nat → Bool) (c p : Nat) (hp : u c p = true) : ∀ n, cnt (upd u c p false c) n = if p < n then cnt (u c) n - 1 else cnt (u c) n
  | 0 => by simp [cnt]
  | n + 1 => by
      have ih := cnt_off u c p hp n
      by_cases e : n = p
      · subst e
        have a : upd u c n false c n = false := by simp [upd]
        rw [if_neg (by omega)] at ih
        rw [if_pos (by omega), cnt_true hp, cnt_false a, ih]
        omega
      · have a : upd u c p false c n = u c n := by simp [upd, e]
        cases b : u c n with
        | true =>
            rw [b] at a
            rw [cnt_true a, cnt_true b, ih]
            have pos : p < n → 1 ≤ cnt (u c) n := fun h => cnt_pos hp h
            by_cases h : p < n
            · have := pos h; rw [if_pos h, if_pos (by omega)]; omega
            · rw [if_neg h, if_neg (by omega)]
        | false =>
            rw [b] at a
            rw [cnt_false a, cnt_false b, ih]
            by_cases h : p < n
            · rw [if_pos h, if_pos (by omega)]
            · rw [if_neg h, if_neg (by omega)]
theorem gone_zero {u : Nat → Bool} {n t : Nat} (h : ∀ j, j < n → u j = true) (hc : cnt u n = n) : Gone u n t 0 := ⟨fun j hj => by rw [h j hj]; simp, by omega⟩
theorem gone_hit {u : Nat → Bool} {n t k : Nat} (h : Gone u n t k) (ht : t < n) (hk : k < n) : u ((t + k) % n) = true := by
  rw [h.1 _ (Nat.mod_lt _ (by omega)), turn_hit ht hk]; simp
theorem gone_next {u : Nat → Nat → Bool} {c n t k : Nat} (h : Gone (u c) n t k) (ht : t < n) (hk : k < n) : Gone (upd u c ((t + k) % n) false c) n t (k + 1) := by
  have hh := gone_hit h ht hk
  constructor
  · intro j hj
    by_cases e : j = (t + k) % n
    · subst e
      rw [turn_hit ht hk]; simp [upd]
    · have : upd u c ((t + k) % n) false c j = u c j := by simp [upd, e]
      rw [this, h.1 j hj]
      have hne : (j + n - t) % n ≠ k := fun q => e (turn_only ht hj q)
      apply decide_eq_decide.2
      omega
  · rw [cnt_off u c _ hh, if_pos (Nat.mod_lt _ (by omega)), h.2]; omega
theorem gone_all {u : Nat → Bool} {n t : Nat} (h : Gone u n t n) (hn : 0 < n) : u 0 = false := by
  rw [h.1 0 hn]
  have := Nat.mod_lt (0 + n - t) hn
  simp; simpa using this
set_option maxRecDepth 100000 in
theorem fills_c (c : Nat) (hc : c < 4) (a0 a1 w : Int) (hwd : bits BinOp.and IntKind.i64 a0 127 = w) (hw : InClass c w) (W0 : World) :
    Calls Try.prog 5 #[.int .i64 a0, .int .i64 a1] W0 fun e w' => e = .returned (.bool true) ∧ Below W0.heap.size W0 w' := by
  obtain ⟨n1, n2⟩ := nb_bd c
  have e8 : decide ((nb c : Int) < 8) = false := by simp; omega
  have e8' : decide (nb c < 8) = false := by simp; omega
  go_enter Try.func5, Try.ntmps5
  go_wp2_with (first | (go_at_call 13; refine (new_any _).mono ?_; rintro e W1 ⟨hb, bs, rfl, hI, hB1⟩) | (go_at_call 8; refine (class_c hc hw _).mono ?_; rintro e W2 ⟨rfl, hB2⟩))
  obtain ⟨i0, hi, hz0, hz1, hz2⟩ := info_parts info3
  have hI2 : HpAt W0.heap.size W2 hb bs (fillU c 0) := by
    have : (fun _ _ => false) = fillU c 0 := by funext d j; simp [fillU]
    rw [← this]; exact hI.below hB2
  have hB : Below W0.heap.size W0 W2 := hB1.trans (hB2.mono hB1.size)
  have hlt2 := hI2.ltB c hc
  obtain ⟨s1, s2⟩ := szc_bd c
  have hltH2 := hI2.ltH
  have hltB2 := hI2.ltB
  have hWs : W0.heap.size ≤ W2.heap.size := hB.size
  clear hI hB1 hB2 W1
  go_loopw [10, 11] (fun v i wr => ∃ k : Nat, k ≤ nb c ∧ i = .int .i64 k ∧ HpAt W0.heap.size wr hb bs (fillU c k) ∧ wr.ownsRow W2.heap.size 3 1 v k (adrs c k) ∧ Below W0.heap.size W0 wr ∧ W2.heap.size ≤ wr.heap.size ∧ (k = 0 → v = .slice none 0 0)) (fun _ i _ => nb c - (intOf i).toNat)
  case atStart => exact ⟨0, Nat.zero_le _, rfl, hI2, ⟨rfl, .inl ⟨rfl, rfl⟩⟩, hB, Nat.le_refl _, fun _ => rfl⟩
  case round =>
    clear hI2 hB
    obtain ⟨k, hk, rfl, hI, hown, hB, hsz, hnil⟩ := hrel
    have hltH := hI.ltH
    by_cases hlt : k < nb c
    · have hbd := adr_bd c k hk
      rcases Nat.eq_zero_or_pos k with h0 | h0
      · have hv := hnil h0
        subst hv
        have e0 : decide (0 < k) = false := by simp; omega
        have H0 := Lib.hid h0
        clear h0 hnil
        go_wp2_with (first | (go_at_call 9; refine (alloc_fill hI hc hlt hw).mono ?_; rintro e W3 ⟨rfl, hI3, hF3⟩) | (at_builtin; refine wpList_append_own _ rfl (.tmp 67) (.tmp 69) 25 rfl W2.heap.size 3 i0 (.int .i64 0) 1 8 Try.underlying25 hi hz0 hz1 hz2 rfl (by decide) (.slice none 0 0) k (adrs c k) rfl ((own_fr hown hF3 hlt2).alloc _) ⟨W3.heap.size, 0, none⟩ 1 1 [.int .i64 (adr c k)] rfl rfl (by intro j u hj; match j, hj with | 0, hj => simp at hj; subst hj; simp [Addr.add]) (by intro u hu; simp at hu; subst hu; rfl) (by unfold maxLen; omega) (by omega) (by simp; have := hF3.size; omega) ?_; intro v' w4 hown4 hgrow _))
        obtain ⟨r1, r2, r3, r4⟩ := fill_step hc hltH2 hltB2 hWs hI3 hF3 hB hsz hown hgrow hown4
        clear hI hown hB hgrow hown4 hI3 hF3
        go_roundw
        case rel => exact ⟨k + 1, by omega, by go_num, r1, r2, r3, r4, fun h => absurd h (by omega)⟩
        case measure => simp [intOf]; omega
      · obtain ⟨m, rfl⟩ : ∃ m, k = m + 1 := ⟨k - 1, by omega⟩
        obtain ⟨g, cap, hv⟩ : ∃ g cap, u10 = .slice (some ⟨g, 0, none⟩) (m + 1) cap := by
          rcases hown.2 with ⟨_, h⟩ | ⟨g, cap, cur, h, _⟩
          · omega
          · exact ⟨g, cap, h⟩
        subst hv
        have hcx : ∀ W3 : World, W3.ownsRow W2.heap.size 3 1 (.slice (some ⟨g, 0, none⟩) (m + 1) cap) (m + 1) (adrs c (m + 1)) → W3.cell? ⟨g, m, none⟩ = some (.int .i64 (adr c m)) := fun W3 h => own_cell h (Nat.lt_succ_self m) (by unfold adrs; simp)
        have hne := adr_ne c m
        have hbm := adr_bd c m (by omega)
        have hz' : (0 : Int) < (m : Int) + 1 := by omega
        clear h0 hnil
        go_wp2_with (first | (go_at_call 9; refine (alloc_fill hI hc hlt hw).mono ?_; rintro e W3 ⟨rfl, hI3, hF3⟩; have kc := hcx _ (own_fr hown hF3 hlt2)) | (at_builtin; refine wpList_append_own _ rfl (.tmp 67) (.tmp 69) 25 rfl W2.heap.size 3 i0 (.int .i64 0) 1 8 Try.underlying25 hi hz0 hz1 hz2 rfl (by decide) (.slice (some ⟨g, 0, none⟩) (m + 1) cap) (m + 1) (adrs c (m + 1)) rfl ((own_fr hown hF3 hlt2).alloc _) ⟨W3.heap.size, 0, none⟩ 1 1 [.int .i64 (adr c (m + 1))] rfl rfl (by intro j u hj; match j, hj with | 0, hj => simp at hj; subst hj; simp [Addr.add]) (by intro u hu; simp at hu; subst hu; rfl) (by unfold maxLen; omega) (by omega) (by simp; have := hF3.size; omega) ?_; intro v' w4 hown4 hgrow _))
        obtain ⟨r1, r2, r3, r4⟩ := fill_step hc hltH2 hltB2 hWs hI3 hF3 hB hsz hown hgrow hown4
        clear hI hown hB hgrow hown4 hI3 hF3 hcx kc hne
        go_roundw
        case rel => exact ⟨m + 1 + 1, by omega, by go_num, r1, r2, r3, r4, fun h => absurd h (by omega)⟩
        case measure => simp [intOf]; omega
    · obtain rfl : k = nb c := by omega
      obtain ⟨g, cap, hv⟩ : ∃ g cap, u10 = .slice (some ⟨g, 0, none⟩) (nb c) cap := by
        rcases hown.2 with ⟨_, h⟩ | ⟨g, cap, cur, h, _⟩
        · omega
        · exact ⟨g, cap, h⟩
      subst hv
      have hL : ∀ W, HpAt W0.heap.size W hb bs (fillU c (nb c)) → Calls Try.prog 11 #[.pointer (some ⟨hb, 0, none⟩), .int .i64 c] W fun e w' => e = .returned (.int .i64 (nb c)) ∧ w' = W := fun W h => by
        have := live_any h hc
        rw [cnt_fill c (nb c) (nb c) (Nat.le_refl _)] at this
        exact this
      clear hnil hlt hk
      go_wp2_with (first | (go_at_call 9; refine (alloc_full hI hc hw).mono ?_; rintro e W3 ⟨rfl, hI3, hF3⟩) | (go_at_call 11; refine (hL _ hI3).mono ?_; rintro e w' ⟨rfl, rfl⟩))
      obtain ⟨t, ht, et⟩ := turn_t a1 (nb c) n1 n2
      rw [et]
      clear et
      have hFB : Below W0.heap.size wr w' := hF3.below (hI3.newB c hc) hB.size
      have hB' := hB.trans hFB
      have hown' := own_fr hown hF3 hlt2
      have hsz' : W2.heap.size ≤ w'.heap.size := by have := hF3.size; omega
      have hu0 : Gone (fillU c (nb c) c) (nb c) t 0 := gone_zero (fun j hj => by simp [fillU]; exact hj) (cnt_fill c (nb c) (nb c) (Nat.le_refl _))
      clear hI hB hown hsz hF3 hL hFB
      go_loopw [16] (fun i wr => ∃ k : Nat, ∃ u, k ≤ nb c ∧ i = .int .i64 k ∧ HpAt W0.heap.size wr hb bs u ∧ Gone (u c) (nb c) t k ∧ wr.ownsRow W2.heap.size 3 1 (.slice (some ⟨g, 0, none⟩) (nb c) cap) (nb c) (adrs c (nb c)) ∧ Below W0.heap.size W0 wr) (fun i _ => nb c - (intOf i).toNat)
      case atStart => exact ⟨0, _, Nat.zero_le _, rfl, hI3, hu0, hown', hB'⟩
      case round =>
        clear hI3 hu0 hown' hB' hsz'
        obtain ⟨k, u, hk, rfl, hI, hG, hown, hB⟩ := hrel
        by_cases hlt : k < nb c
        · obtain ⟨p1, p2⟩ := turn_at t k (nb c) ht hlt n2
          have hp : (t + k) % nb c < nb c := Nat.mod_lt _ (by omega)
          have hit := gone_hit hG ht hlt
          have nxt := gone_next hG ht hlt
          generalize hpe : (t + k) % nb c = p at p1 p2 hp hit nxt
          have kc : wr.cell? ⟨g, p, none⟩ = some (.int .i64 (adr c p)) := own_cell hown hp (by unfold adrs; simp [hp])
          have hL : ∀ W, HpAt W0.heap.size W hb bs (upd u c p false) → Calls Try.prog 11 #[.pointer (some ⟨hb, 0, none⟩), .int .i64 c] W fun e w' => e = .returned (.int .i64 ((nb c : Int) - 1 - k)) ∧ w' = W := fun W h => by
            have := live_any h hc
            rw [nxt.2] at this
            have e : ((nb c - (k + 1) : Nat) : Int) = (nb c : Int) - 1 - k := by omega
            rw [e] at this
            exact this
          go_wp2_with (first | (go_at_call 10; refine (free_hit hI hc hp hit).mono ?_; rintro e W3 ⟨rfl, hI3, hF3⟩) | (go_at_call 11; refine (hL _ hI3).mono ?_; rintro e w'2 ⟨rfl, rfl⟩))
          clear hL
          go_roundw
          case rel => exact ⟨k + 1, upd u c p false, by omega, by go_num, hI3, nxt, own_fr hown hF3 hlt2, hB.trans (hF3.below (hI.newB c hc) hB.size)⟩
          case measure => simp [intOf]; omega
        · obtain rfl : k = nb c := by omega
          have hz := gone_all hG (by omega)
          have hA : ∀ W, HpAt W0.heap.size W hb bs u → Calls Try.prog 9 #[.pointer (some ⟨hb, 0, none⟩), .int .i64 w] W fun e W' => e = .returned (.tuple #[.int .i64 (adr c 0), .int .i64 0]) ∧ HpAt W0.heap.size W' hb bs (upd u c 0 true) ∧ Fr (bs c) W W' := fun W h => by
            refine (alloc_any h hc hw).mono ?_
            rintro e W' (⟨i, h1, h2, h3, h4, h5, h6⟩ | ⟨h1, _⟩)
            · have : i = 0 := by
                rcases Nat.eq_zero_or_pos i with q | q
                · exact q
                · have := h3 0 q; rw [hz] at this; cases this
              subst this
              exact ⟨h4, h5, h6⟩
            · have := h1 0 (by omega); rw [hz] at this; cases this
          clear hlt hk
          have hn0 : 0 < nb c := by omega
          have hcx : ∀ W3 : World, W3.ownsRow W2.heap.size 3 1 (.slice (some ⟨g, 0, none⟩) (nb c) cap) (nb c) (adrs c (nb c)) → W3.cell? ⟨g, 0, none⟩ = some (.int .i64 (adr c 0)) := fun W3 h => own_cell h hn0 (by unfold adrs; simp [hn0])
          go_wp2_with (first | (go_at_call 9; refine (hA _ hI).mono ?_; rintro e W3 ⟨rfl, hI3, hF3⟩; have kc := hcx _ (own_fr hown hF3 hlt2)))
          go_ret
          exact ⟨rfl, hB.trans (hF3.below (hI.newB c hc) hB.size)⟩
theorem fills_walk (a0 a1 : Int) {p q : Prop} (_ : p) (_ : q) (W : World) : Calls Try.prog 5 #[.int .i64 a0, .int .i64 a1] W fun e W' => e = .returned (.bool true) ∧ Below W.heap.size W W' := by
  obtain ⟨c, hc, hw⟩ := class_of (a0 % 128) (by omega) (by omega)
  exact fills_c c hc a0 a1 (a0 % 128) (i64_and127 a0) hw W
end Go.Proofs.Ytlpdemdakcjjjaa.W
