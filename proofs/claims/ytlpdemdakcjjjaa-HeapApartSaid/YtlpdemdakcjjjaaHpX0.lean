/- HeapApart: the walk. -/
import Derived.Test.YtlpdemdakcjjjaaHpSK
import Derived.Outline
import Derived.Laws.Bits128
import Derived.RegionTactic
import Derived.StillTailTactics
import Derived.Deep.QuietTactic
import Derived.BigQuiet
import Derived.Deep.LoopGhost
import Derived.Deep.DeepCutAuto
namespace Go.Proofs.Ytlpdemdakcjjjaa.W
open Go Go.RowKit Go.Proofs Go.Proofs.Ytlpdemdakcjjjaa.Sx
set_option linter.unusedVariables false
set_option linter.unusedSimpArgs false
theorem own_shape {W : World} {B e s n : Nat} {v : Value} {xs : List Value} (h : W.ownsRow B e s v n xs) : ∃ ao cap, v = .slice ao n cap ∧ (0 < n → ∃ g, ao = some ⟨g, 0, none⟩) := by
  rcases h.2 with ⟨rfl, rfl⟩ | ⟨g, cap, cur, rfl, _⟩
  · exact ⟨none, 0, rfl, fun h => absurd h (by omega)⟩
  · exact ⟨some ⟨g, 0, none⟩, cap, rfl, fun _ => ⟨g, rfl⟩⟩
theorem first_free (u : Nat → Bool) : ∀ n, (∀ j, j < n → u j = true) ∨ ∃ i, i < n ∧ u i = false ∧ ∀ j, j < i → u j = true
  | 0 => .inl fun j hj => by omega
  | n + 1 => by
      rcases first_free u n with h | ⟨i, h1, h2, h3⟩
      · cases e : u n with
        | true =>
          exact .inl fun j hj => by
            by_cases q : j = n
            · subst q; exact e
            · exact h j (by omega)
        | false =>
          exact .inr ⟨n, by omega, e, h⟩
      · exact .inr ⟨i, by omega, h2, h3⟩
theorem alloc_some {B : Nat} {W : World} {hb : Nat} {bs : Nat → Nat} {u : Nat → Nat → Bool} (h : HpAt B W hb bs u) {c i : Nat} (hc : c < 4) {w : Int} (hw : InClass c w) (hi : i < nb c) (h2 : u c i = false) (h3 : ∀ j, j < i → u c j = true) :
    Calls Try.prog 9 #[.pointer (some ⟨hb, 0, none⟩), .int .i64 w] W fun e W' => e = .returned (.tuple #[.int .i64 (adr c i), .int .i64 0]) ∧ HpAt B W' hb bs (upd u c i true) ∧ Fr (bs c) W W' := by
  refine (alloc_any h hc hw).mono ?_
  rintro e W' (⟨j, q1, q2, q3, q4, q5, q6⟩ | ⟨q1, _⟩)
  · have e1 : j = i := by
      rcases Nat.lt_trichotomy j i with q | q | q
      · rw [h3 j q] at q2; cases q2
      · exact q
      · rw [q3 i q] at h2; cases h2
    subst e1
    exact ⟨q4, q5, q6⟩
  · rw [q1 i hi] at h2; cases h2
theorem alloc_none {B : Nat} {W : World} {hb : Nat} {bs : Nat → Nat} {u : Nat → Nat → Bool} (h : HpAt B W hb bs u) {c : Nat} (hc : c < 4) {w : Int} (hw : InClass c w) (hf : ∀ j, j < nb c → u c j = true) :
    Calls Try.prog 9 #[.pointer (some ⟨hb, 0, none⟩), .int .i64 w] W fun e W' => e = .returned (.tuple #[.int .i64 0, .int .i64 12]) ∧ HpAt B W' hb bs u ∧ Fr (bs c) W W' := by
  refine (alloc_any h hc hw).mono ?_
  rintro e W' (⟨j, q1, q2, _⟩ | ⟨_, q4, q5, q6⟩)
  · rw [hf j q1] at q2; cases q2
  · exact ⟨q4, q5, q6⟩
theorem turn_of (a : Int) (n : Nat) (h1 : 1 ≤ n) (h2 : n ≤ 300) : ∃ t : Nat, t < n ∧ (wrap64 (a.tmod n + n)).tmod n = t := by
  have hn : (0 : Int) < n := by omega
  have b1 : -(n : Int) < a.tmod n := by
    rcases Int.le_total 0 a with h | h
    · have := Int.tmod_nonneg (n : Int) h; omega
    · have e : a.tmod n = -((-a).tmod n) := by rw [Int.neg_tmod]; simp
      have := Int.tmod_lt_of_pos (-a) hn
      omega
  have b2 : a.tmod n < n := Int.tmod_lt_of_pos _ hn
  have e : wrap64 (a.tmod n + n) = a.tmod n + n := by unfold wrap64; omega
  rw [e]
  have c1 : 0 ≤ (a.tmod n + n).tmod n := Int.tmod_nonneg _ (by omega)
  have c2 : (a.tmod n + n).tmod n < n := Int.tmod_lt_of_pos _ hn
  exact ⟨((a.tmod n + n).tmod n).toNat, by omega, by omega⟩
theorem bits_and3 (a : Int) : ∃ y : Int, bits BinOp.and IntKind.i64 a 3 = y := ⟨_, rfl⟩
theorem take_cnt (L : List (Nat × Nat)) (c : Nat) {j : Nat} (hj : j < L.length) : (L.take (j + 1)).countP (fun p => p.1 == c) = (L.take j).countP (fun p => p.1 == c) + (if (((L[j]).1 : Int) == (c : Int)) = true then 1 else 0) := by
  rw [List.take_succ_eq_append_getElem hj, List.countP_append]
  congr 1
  by_cases e : (L[j]).1 = c
  · simp [e]
  · have : ¬ (((L[j]).1 : Int) = (c : Int)) := by omega
    simp [e, this]
theorem wr64 (x : Int) (h0 : 0 ≤ x) (h1 : x < 1000000) : IntKind.i64.wrap x = x := by rw [IntKind.wrap_i64]; omega
theorem begins_off {u : Nat → Nat → Bool} {pc pk : Nat} (hpc4 : pc < 4) (hpkn : pk < nb pc) : ∀ a b, ¬ Begins (upd u pc pk false) (adr pc pk) a b := fun a b ⟨r1, r2, r3, r4⟩ => by
  by_cases e : a = pc ∧ b = pk
  · obtain ⟨rfl, rfl⟩ := e; simp [upd] at r3
  · have p1 := (@szc_pos a).1
    have p2 := (@szc_pos pc).1
    rcases adr_apart r1 hpc4 r2 hpkn e with h | h <;> omega
theorem within_off {B : Nat} {X : World} {hb : Nat} {bs : Nat → Nat} {u : Nat → Nat → Bool} {pc pk : Nat} (hpc4 : pc < 4) (hpkn : pk < nb pc) (h : HpAt B X hb bs (upd u pc pk false)) :
    Calls Try.prog 12 #[.pointer (some ⟨hb, 0, none⟩), .int .i64 (adr pc pk), .int .i64 1] X fun e w1 => e = .returned (.bool false) ∧ Below X.heap.size X w1 := by
  refine (within_any h (adr pc pk) 1).mono ?_
  rintro e w1 ⟨⟨r, rfl, hr⟩, hb⟩
  refine ⟨?_, hb⟩
  cases r with
  | false => rfl
  | true =>
    exfalso
    obtain ⟨a, b, r1, r2, r3, r4⟩ := hr.1 rfl
    obtain ⟨_, _, s1, s2, _⟩ := (inRow_iff _ _ _ _).1 r4
    have p2 := (@szc_pos pc).1
    obtain ⟨rfl, rfl⟩ := same_block hpc4 hpkn r1 r2 (o := 0) (by omega) (by omega) (by omega) (by omega)
    simp [upd] at r3
theorem within_on {B : Nat} {X : World} {hb : Nat} {bs : Nat → Nat} {u : Nat → Nat → Bool} {pc pk : Nat} (hpc4 : pc < 4) (hpkn : pk < nb pc) (h : HpAt B X hb bs (upd u pc pk true)) :
    Calls Try.prog 12 #[.pointer (some ⟨hb, 0, none⟩), .int .i64 (adr pc pk), .int .i64 (szc pc)] X fun e w1 => e = .returned (.bool true) ∧ Below X.heap.size X w1 := by
  refine (within_any h (adr pc pk) (szc pc)).mono ?_
  rintro e w1 ⟨⟨r, rfl, hr⟩, hb⟩
  refine ⟨?_, hb⟩
  have p2 := (@szc_pos pc).1
  have : r = true := hr.2 ⟨pc, pk, hpc4, hpkn, by simp [upd], (inRow_iff _ _ _ _).2 ⟨by have := adr_in hpc4 hpkn; rw [Int.tmod_eq_emod_of_nonneg (by omega)]; exact this.2.2, by omega, by omega, by omega, by simp⟩⟩
  rw [this]
/-- What Alloc tells. -/
structure Told (u : Nat → Nat → Bool) (c : Nat) (x f : Int) (u' : Nat → Nat → Bool) (bi : Nat) (ok : Bool) : Prop where
  yes : ok = true → x = adr c bi ∧ f = 0 ∧ u' = upd u c bi true ∧ bi < nb c ∧ u c bi = false
  no : ok = false → x = 0 ∧ f = 12 ∧ u' = u ∧ cnt (u c) (nb c) = nb c
theorem alloc_told {B : Nat} {W : World} {hb : Nat} {bs : Nat → Nat} {u : Nat → Nat → Bool} (h : HpAt B W hb bs u) {c : Nat} (hc : c < 4) {w : Int} (hw : InClass c w) : ∃ x f u' bi ok, Told u c x f u' bi ok ∧
    Calls Try.prog 9 #[.pointer (some ⟨hb, 0, none⟩), .int .i64 w] W fun e W' => e = .returned (.tuple #[.int .i64 x, .int .i64 f]) ∧ HpAt B W' hb bs u' ∧ Fr (bs c) W W' := by
  rcases first_free (u c) (nb c) with hf | ⟨bi, h1, h2, h3⟩
  · exact ⟨0, 12, u, 0, false, ⟨(fun q => by cases q), fun _ => ⟨rfl, rfl, rfl, (cnt_all _ _).2 hf⟩⟩, alloc_none h hc hw hf⟩
  · exact ⟨adr c bi, 0, _, bi, true, ⟨fun _ => ⟨rfl, rfl, rfl, h1, h2⟩, fun q => by cases q⟩, alloc_some h hc hw h1 h2 h3⟩
theorem cnt_lt {u : Nat → Bool} {n i : Nat} (hi : i < n) (h : u i = false) : cnt u n < n := by
  have h1 := cnt_le' u n
  have h2 := (cnt_all u n).1
  by_cases e : cnt u n = n
  · have := h2 e i hi; rw [h] at this; cases this
  · omega
theorem live_c {B : Nat} {hb : Nat} {bs : Nat → Nat} {u : Nat → Nat → Bool} {c : Nat} (hc : c < 4) {m : Nat} (hm : cnt (u c) (nb c) = m) (X : World) (h : HpAt B X hb bs u) :
    Calls Try.prog 11 #[.pointer (some ⟨hb, 0, none⟩), .int .i64 c] X fun e w1 => e = .returned (.int .i64 m) ∧ w1 = X := by
  have := live_any h hc
  rw [hm] at this
  exact this
end Go.Proofs.Ytlpdemdakcjjjaa.W
