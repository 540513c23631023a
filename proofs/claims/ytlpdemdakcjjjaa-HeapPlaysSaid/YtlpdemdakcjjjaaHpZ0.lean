/- Both heaps, call by call: the same answer, the same blocks in use. -/
import Derived.Test.YtlpdemdakcjjjaaHpX0
import Derived.Test.YtlpdemdakcjjjaaHpAG
namespace Go.Proofs.Ytlpdemdakcjjjaa.W
open Go Go.RowKit Go.Proofs Go.Proofs.Ytlpdemdakcjjjaa.Sx
set_option linter.unusedVariables false
set_option linter.unusedSimpArgs false
/-- The document's rows. -/
def flat (L : List (Nat × Nat)) : List Value := L.flatMap fun p => [.int .i64 (adr p.1 p.2), .int .i64 (p.1 : Int), .int .i64 (szc p.1)]
theorem flat_cons (p : Nat × Nat) (L : List (Nat × Nat)) : flat (p :: L) = .int .i64 (adr p.1 p.2) :: .int .i64 (p.1 : Int) :: .int .i64 (szc p.1) :: flat L := rfl
theorem flat_len : ∀ L : List (Nat × Nat), (flat L).length = L.length * 3
  | [] => rfl
  | p :: L => by rw [flat_cons]; simp [flat_len L]; omega
theorem flat_app (L M : List (Nat × Nat)) : flat (L ++ M) = flat L ++ flat M := by simp [flat]
theorem flat_get : ∀ (L : List (Nat × Nat)) (j : Nat) (hj : j < L.length), (flat L)[j * 3]? = some (.int .i64 (adr (L[j]).1 (L[j]).2)) ∧ (flat L)[j * 3 + 1]? = some (.int .i64 ((L[j]).1 : Int)) ∧ (flat L)[j * 3 + 2]? = some (.int .i64 (szc (L[j]).1))
  | [], j, hj => by simp at hj
  | p :: L, 0, _ => by rw [flat_cons]; simp
  | p :: L, j + 1, hj => by
      have := flat_get L j (by simpa using hj)
      rw [flat_cons, show (j + 1) * 3 = j * 3 + 1 + 1 + 1 by omega, show j * 3 + 1 + 1 + 1 + 1 = (j * 3 + 1) + 1 + 1 + 1 by omega, show j * 3 + 1 + 1 + 1 + 2 = (j * 3 + 2) + 1 + 1 + 1 by omega]
      simpa using this
theorem flat_take : ∀ (L : List (Nat × Nat)) (k : Nat), (flat L).take (k * 3) = flat (L.take k)
  | L, 0 => by simp [flat]
  | [], k + 1 => by simp [flat]
  | p :: L, k + 1 => by
      rw [show (k + 1) * 3 = k * 3 + 1 + 1 + 1 by omega, flat_cons, List.take_succ_cons, List.take_succ_cons, List.take_succ_cons, List.take_succ_cons, flat_cons, flat_take L k]
theorem flat_drop : ∀ (L : List (Nat × Nat)) (k : Nat), (flat L).drop (k * 3) = flat (L.drop k)
  | L, 0 => by simp
  | [], k + 1 => by simp [flat]
  | p :: L, k + 1 => by
      rw [show (k + 1) * 3 = k * 3 + 1 + 1 + 1 by omega, flat_cons, List.drop_succ_cons, List.drop_succ_cons, List.drop_succ_cons, List.drop_succ_cons, flat_drop L k]
theorem flat_one (L : List (Nat × Nat)) : ∀ u ∈ flat L, u.oneCell' = true := by
  intro u hu
  simp [flat] at hu
  obtain ⟨a, b, _, rfl | rfl | rfl⟩ := hu <;> rfl
structure RowsAt (B : Nat) (W : World) (rb : Nat) (L : List (Nat × Nat)) : Prop where
  head : ∃ v, W.cell? ⟨rb, 0, none⟩ = some v ∧ W.ownsRow B 61 3 v L.length (flat L)
  froz : W.frozen? ⟨rb, 0, none⟩ = false
def avL (L : List (Nat × Nat)) (j : Nat) : Int := adr (L.getD j (0, 0)).1 (L.getD j (0, 0)).2
def kvL (L : List (Nat × Nat)) (j : Nat) : Int := ((L.getD j (0, 0)).1 : Int)
def wvL (L : List (Nat × Nat)) (j : Nat) : Int := szc (L.getD j (0, 0)).1
theorem getD_at {L : List (Nat × Nat)} {j : Nat} (hj : j < L.length) : L.getD j (0, 0) = L[j] := by simp [List.getD, hj]
theorem rows3_of {B : Nat} {W : World} {rb : Nat} {L : List (Nat × Nat)} {v : Value} (hl : L.length < 100000) (hh : W.cell? ⟨rb, 0, none⟩ = some v) (ho : W.ownsRow B 61 3 v L.length (flat L)) : Rows3 W rb v L.length (avL L) (kvL L) (wvL L) := by
  refine ⟨hh, hl, ?_⟩
  rcases ho.2 with ⟨h1, h2⟩ | ⟨g, cap, cur, rfl, h2, h3, h4, h5, h6, h7⟩
  · exact .inl ⟨h1, h2⟩
  · refine .inr ⟨g, cap, rfl, fun j hj => ?_⟩
    obtain ⟨f0, f1, f2⟩ := flat_get L j hj
    have c := ho.cells (g := g) rfl
    have c0 := c _ _ f0
    have c1 := c _ _ f1
    have c2 := c _ _ f2
    rw [Addr.add_lit, Nat.zero_add] at c0 c1 c2
    unfold avL kvL wvL
    rw [getD_at hj]
    exact ⟨c0, c1, c2⟩
/-- What the document's heap leaves as it was. -/
structure ROther (B rb : Nat) (W W' : World) : Prop where
  os : W'.os = W.os
  tape : W'.tape = W.tape
  output : W'.output = W.output
  size : W.heap.size ≤ W'.heap.size
  block : ∀ g, g < W.heap.size → g ≠ rb → (g < B ∨ ∀ cur fr, W.heap[g]? ≠ some (.cells cur 61 fr)) → W'.heap[g]? = W.heap[g]?
theorem ROther.of_below {B rb : Nat} {W W' : World} (h : Below W.heap.size W W') : ROther B rb W W' := ⟨h.os, h.tape, h.output, h.size, fun g h1 _ _ => h.block g h1⟩
theorem ROther.of_turned {B rb n : Nat} {W W' : World} {xs : List Value} (h : Turned B W rb n xs W') : ROther B rb W W' := ⟨h.same.1, h.same.2.1, h.same.2.2, h.size, fun g h1 h2 _ => h.rest g h1 h2⟩
theorem ROther.of_added {B rb n : Nat} {W W' : World} {v : Value} {xs new : List Value} (ho : W.ownsRow B 61 3 v n xs) (h : Added B W rb v n xs new W') : ROther B rb W W' := ⟨h.same.1, h.same.2.1, h.same.2.2, h.size, fun g h1 h2 h3 => h.rest g h1 h2 fun e => by
  rcases ho.2 with ⟨rfl, _⟩ | ⟨g', cap, cur, rfl, q2, q3, _⟩
  · simp [Value.ownBlock] at e
  · simp [Value.ownBlock] at e
    subst e
    rcases h3 with h3 | h3
    · omega
    · exact h3 _ _ q3⟩
theorem RowsAt.below {B rb : Nat} {W W' : World} {L : List (Nat × Nat)} (h : RowsAt B W rb L) (hb : Below W.heap.size W W') : RowsAt B W' rb L := by
  obtain ⟨⟨v, h1, h2⟩, h3⟩ := h
  exact ⟨⟨v, ((bcell hb).1 rb 0 (cell_lt h1)).trans h1, own_below h2 hb⟩, ((bcell hb).2 rb 0 (cell_lt h1)).trans h3⟩
theorem rclass_c {c : Nat} (hc : c < 4) {w : Int} (hw : InClass c w) (W : World) : Calls Try.prog 17 #[.int .i64 w] W fun e W' => e = .returned (.tuple #[.int .i64 c, .int .i64 (szc c), .int .i64 (nb c), .int .i64 0]) ∧ Below W.heap.size W W' := by
  have h := rclass_calls w W
  obtain ⟨h1, h2, h3⟩ := hw
  have e2 : clsS w = szc c := by
    unfold clsK at h1; unfold clsS szc
    match c, hc with
    | 0, _ => repeat' split at h1 <;> simp at h1 <;> (repeat' split) <;> omega
    | 1, _ => repeat' split at h1 <;> simp at h1 <;> (repeat' split) <;> omega
    | 2, _ => repeat' split at h1 <;> simp at h1 <;> (repeat' split) <;> omega
    | 3, _ => repeat' split at h1 <;> simp at h1 <;> (repeat' split) <;> omega
  have e3 : clsB w = (nb c : Int) := by
    unfold clsK at h1; unfold clsB nb
    match c, hc with
    | 0, _ => repeat' split at h1 <;> simp at h1 <;> (repeat' split) <;> omega
    | 1, _ => repeat' split at h1 <;> simp at h1 <;> (repeat' split) <;> omega
    | 2, _ => repeat' split at h1 <;> simp at h1 <;> (repeat' split) <;> omega
    | 3, _ => repeat' split at h1 <;> simp at h1 <;> (repeat' split) <;> omega
  have e4 : clsE w = 0 := by unfold clsE; rw [if_pos h2, if_pos h3]
  rw [h1, e2, e3, e4] at h
  exact h
theorem ralloc_no (rb : Nat) (w : Int) (W : World) (hw : w < 0 ∨ 128 < w) :
    Calls Try.prog 15 #[.pointer (some ⟨rb, 0, none⟩), .int .i64 w] W fun e W' => e = .returned (.tuple #[.int .i64 0, .int .i64 2]) ∧ Below W.heap.size W W' := by
  have hc : ∀ W, Calls Try.prog 17 #[.int .i64 w] W fun e W' => e = .returned (.tuple #[.int .i64 0, .int .i64 0, .int .i64 0, .int .i64 2]) ∧ Below W.heap.size W W' := by
    intro W
    have k1 : clsK w = 0 := by unfold clsK; repeat' split <;> first | rfl | omega
    have k2 : clsS w = 0 := by unfold clsS; repeat' split <;> first | rfl | omega
    have k3 : clsB w = 0 := by unfold clsB; repeat' split <;> first | rfl | omega
    have k4 : clsE w = 2 := by unfold clsE; repeat' split <;> first | rfl | omega
    have h := rclass_calls w W
    rw [k1, k2, k3, k4] at h
    exact h
  go_enter Try.func15, Try.ntmps15
  go_wp2_with (go_at_call 17; refine (hc _).mono ?_; rintro e W1 ⟨rfl, hb1⟩)
  refine bodyPost_ret (v := .tuple #[.int .i64 0, .int .i64 2]) (by simp [results, Try.results15, go_sem]) rfl ⟨rfl, hb1⟩
theorem adr_inj {c d i j : Nat} (hc : c < 4) (hd : d < 4) (hi : i < nb c) (hj : j < nb d) (h : adr c i = adr d j) : c = d ∧ i = j := by
  by_cases e : c = d ∧ i = j
  · exact e
  · have p1 := (@szc_pos c).1
    have p2 := (@szc_pos d).1
    rcases adr_apart hc hd hi hj e with q | q <;> omega
theorem nodup_inj {L : List (Nat × Nat)} (h : L.Nodup) {i j : Nat} (hi : i < L.length) (hj : j < L.length) (e : L[i] = L[j]) : i = j := by
  have hp := List.pairwise_iff_getElem.1 h
  rcases Nat.lt_trichotomy i j with q | q | q
  · exact absurd e (hp i j hi hj q)
  · exact q
  · exact absurd e.symm (hp j i hj hi q)
/-- Alloc of both. -/
theorem alloc_both {u : Nat → Nat → Bool} {L : List (Nat × Nat)} (hH : Held u L) (hl : L.length < 100000) (w : Int) : ∃ x f u' L', Held u' L' ∧ L'.length ≤ L.length + 1 ∧
    (∀ B W hb bs, HpAt B W hb bs u → Calls Try.prog 9 #[.pointer (some ⟨hb, 0, none⟩), .int .i64 w] W fun e W' => e = .returned (.tuple #[.int .i64 x, .int .i64 f]) ∧ HpAt B W' hb bs u' ∧ ∃ c, c < 4 ∧ Fr (bs c) W W') ∧
    (∀ B W rb, RowsAt B W rb L → B ≤ W.heap.size → rb < B → Calls Try.prog 15 #[.pointer (some ⟨rb, 0, none⟩), .int .i64 w] W fun e W' => e = .returned (.tuple #[.int .i64 x, .int .i64 f]) ∧ RowsAt B W' rb L' ∧ ROther B rb W W') := by
  by_cases hw : w < 0 ∨ 128 < w
  · refine ⟨0, 2, u, L, hH, by omega, fun B W hb bs h => ?_, fun B W rb h hB hrb => ?_⟩
    · refine (alloc_no hb w W hw h.made).mono ?_
      rintro e W' ⟨rfl, hb'⟩
      exact ⟨rfl, h.below hb', 0, by omega, Fr.of_below hb'⟩
    · refine (ralloc_no rb w W hw).mono ?_
      rintro e W' ⟨rfl, hb'⟩
      exact ⟨rfl, h.below hb', ROther.of_below hb'⟩
  · obtain ⟨c, hc, hcl⟩ := class_of w (by omega) (by omega)
    have hocc : ∀ j, j < nb c → (u c j = true ↔ ∃ q, q < L.length ∧ avL L q = atc c + 4 * szc c * j) := by
      intro j hj
      rw [hH.mem c j hc hj]
      constructor
      · intro hm
        obtain ⟨q, hq, e⟩ := List.getElem_of_mem hm
        exact ⟨q, hq, by unfold avL; rw [getD_at hq, e]; rfl⟩
      · rintro ⟨q, hq, e⟩
        have hm := List.getElem_mem hq
        obtain ⟨r1, r2⟩ := hH.rng _ hm
        unfold avL at e
        rw [getD_at hq] at e
        obtain ⟨e1, e2⟩ := adr_inj r1 hc r2 hj e
        have : L[q] = (c, j) := Prod.ext e1 e2
        rw [← this]; exact hm
    rcases first_free (u c) (nb c) with hf | ⟨i, h1, h2, h3⟩
    · refine ⟨0, 12, u, L, hH, by omega, fun B W hb bs h => ?_, fun B W rb h hB hrb => ?_⟩
      · refine (alloc_none h hc hcl hf).mono ?_
        rintro e W' ⟨rfl, q1, q2⟩
        exact ⟨rfl, q1, c, hc, q2⟩
      · obtain ⟨⟨v, hh, ho⟩, hz⟩ := h
        refine (ralloc rb v L.length _ _ _ c hc w W (rows3_of hl hh ho) B _ ho hB hrb hz (rclass_c hc hcl)).mono ?_
        rintro e W' (⟨i, q1, q2, q3, q4, q5⟩ | ⟨q1, q2, q3⟩)
        · exfalso
          obtain ⟨q, p1, p2⟩ := (hocc i q1).1 (hf i q1)
          exact q3 q p1 p2
        · exact ⟨q2, RowsAt.below ⟨⟨v, hh, ho⟩, hz⟩ q3, ROther.of_below q3⟩
    · refine ⟨adr c i, 0, upd u c i true, L ++ [(c, i)], hH.add hc h1 h2, by simp, fun B W hb bs h => ?_, fun B W rb h hB hrb => ?_⟩
      · refine (alloc_some h hc hcl h1 h2 h3).mono ?_
        rintro e W' ⟨rfl, q1, q2⟩
        exact ⟨rfl, q1, c, hc, q2⟩
      · obtain ⟨⟨v, hh, ho⟩, hz⟩ := h
        refine (ralloc rb v L.length _ _ _ c hc w W (rows3_of hl hh ho) B _ ho hB hrb hz (rclass_c hc hcl)).mono ?_
        rintro e W' (⟨j, q1, q2, q3, q4, q5⟩ | ⟨q1, q2, q3⟩)
        · have ei : j = i := by
            rcases Nat.lt_trichotomy j i with q | q | q
            · obtain ⟨a, p1, p2⟩ := (hocc j q1).1 (h3 j q)
              exact absurd p2 (q3 a p1)
            · exact q
            · have := (hocc i h1).2 (q2 i q)
              rw [h2] at this; cases this
          subst ei
          refine ⟨q4, ⟨?_, q5.froz⟩, ROther.of_added ho q5⟩
          obtain ⟨v', r1, r2⟩ := q5.rows
          refine ⟨v', r1, ?_⟩
          rw [List.length_append, flat_app]
          exact r2
        · exfalso
          have := (hocc i h1).2 (q1 i h1)
          rw [h2] at this; cases this
/-- Free of both. -/
theorem free_both {u : Nat → Nat → Bool} {L : List (Nat × Nat)} (hH : Held u L) (hl : L.length < 100000) (a : Int) : ∃ r u' L', Held u' L' ∧ L'.length ≤ L.length ∧
    (∀ B W hb bs, HpAt B W hb bs u → Calls Try.prog 10 #[.pointer (some ⟨hb, 0, none⟩), .int .i64 a] W fun e W' => e = .returned (.int .i64 r) ∧ HpAt B W' hb bs u' ∧ ∃ c, c < 4 ∧ Fr (bs c) W W') ∧
    (∀ B W rb, RowsAt B W rb L → B ≤ W.heap.size → rb < B → Calls Try.prog 16 #[.pointer (some ⟨rb, 0, none⟩), .int .i64 a] W fun e W' => e = .returned (.int .i64 r) ∧ RowsAt B W' rb L' ∧ ROther B rb W W') := by
  by_cases hex : ∃ q, ∃ hq : q < L.length, adr (L[q]).1 (L[q]).2 = a
  · obtain ⟨q, hq, ha⟩ := hex
    have hm := List.getElem_mem hq
    obtain ⟨r1, r2⟩ := hH.rng _ hm
    have hu := (hH.mem _ _ r1 r2).2 hm
    refine ⟨0, upd u (L[q]).1 (L[q]).2 false, L.take q ++ L.drop (q + 1), hH.cutAt hq, by simp; omega, fun B W hb bs h => ?_, fun B W rb h hB hrb => ?_⟩
    · refine (free_yes h (⟨r1, r2, hu, ha.symm⟩ : Begins u a _ _)).mono ?_
      rintro e W' ⟨rfl, q1, q2⟩
      exact ⟨rfl, q1, _, r1, q2⟩
    · obtain ⟨⟨v, hh, ho⟩, hz⟩ := h
      have h3 := rows3_of hl hh ho
      obtain ⟨g, cap, rfl⟩ := own_any ho (by omega)
      have hF : Calls Try.prog 23 #[.pointer (some ⟨rb, 0, none⟩), .int .i64 a] W fun e w' => e = .returned (.int .i64 q) ∧ w' = W := by
        refine (rfind rb _ L.length _ _ _ a W h3).mono ?_
        rintro e w' ⟨⟨r, rfl, ⟨j, j1, j2, j3, rfl⟩ | ⟨j1, _⟩⟩, rfl⟩
        · have e2 : j = q := by
            have hmj := List.getElem_mem j1
            obtain ⟨s1, s2⟩ := hH.rng _ hmj
            unfold avL at j2
            rw [getD_at j1, ← ha] at j2
            obtain ⟨e1, e2⟩ := adr_inj s1 r1 s2 r2 j2
            have e3 : L[j] = L[q] := Prod.ext e1 e2
            exact nodup_inj hH.nodup j1 hq e3
          subst e2
          exact ⟨rfl, rfl⟩
        · exact absurd (by unfold avL; rw [getD_at hq]; exact ha) (j1 q hq)
      refine (rfree_hit rb g cap L.length q a B (flat L) W hl hq hh hz ho (flat_one L) hB hrb hF).mono ?_
      rintro e W' ⟨rfl, hT⟩
      refine ⟨rfl, ⟨?_, hT.froz⟩, ROther.of_turned hT⟩
      obtain ⟨v', s1, s2⟩ := hT.rows
      refine ⟨v', s1, ?_⟩
      have hlen : (L.take q ++ L.drop (q + 1)).length = L.length - 1 := by simp; omega
      rw [hlen, flat_app, ← flat_take, ← flat_drop]
      exact s2
  · refine ⟨13, u, L, hH, by omega, fun B W hb bs h => ?_, fun B W rb h hB hrb => ?_⟩
    · refine (free_no h a ?_).mono ?_
      · rintro c k ⟨s1, s2, s3, s4⟩
        obtain ⟨q, hq, e⟩ := List.getElem_of_mem ((hH.mem c k s1 s2).1 s3)
        exact hex ⟨q, hq, by rw [e]; exact s4.symm⟩
      · rintro e W' ⟨rfl, hb'⟩
        exact ⟨rfl, h.below hb', 0, by omega, Fr.of_below hb'⟩
    · obtain ⟨⟨v, hh, ho⟩, hz⟩ := h
      refine (rfree_no rb v L.length _ _ _ a W (rows3_of hl hh ho) ?_).mono ?_
      · intro j hj e
        unfold avL at e
        rw [getD_at hj] at e
        exact hex ⟨j, hj, e⟩
      · rintro e W' ⟨rfl, rfl⟩
        exact ⟨rfl, ⟨⟨v, hh, ho⟩, hz⟩, ROther.of_below (Below.refl _ _)⟩
theorem cnt_congr {u v : Nat → Bool} : ∀ n, (∀ j, j < n → u j = v j) → cnt u n = cnt v n
  | 0, _ => rfl
  | n + 1, h => by unfold cnt; rw [h n (by omega), cnt_congr n fun j hj => h j (by omega)]
theorem cnt_list (f : Nat × Nat → Bool) : ∀ L : List (Nat × Nat), ∀ k, k ≤ L.length → cnt (fun j => f (L.getD j (0, 0))) k = (L.take k).countP f
  | L, 0, _ => by simp [cnt]
  | L, k + 1, h => by
      have ih := cnt_list f L k (by omega)
      have hk : k < L.length := by omega
      rw [List.take_succ_eq_append_getElem hk, List.countP_append]
      have e : L.getD k (0, 0) = L[k] := getD_at hk
      cases q : f L[k] with
      | true => rw [cnt_true (u := fun j => f (L.getD j (0, 0))) (by simp only [e, q]), ih]; simp [q]
      | false => rw [cnt_false (u := fun j => f (L.getD j (0, 0))) (by simp only [e, q]), ih]; simp [q]
/-- Live of both. -/
theorem live_both {u : Nat → Nat → Bool} {L : List (Nat × Nat)} (hH : Held u L) (hl : L.length < 100000) (k : Int) : ∃ m : Int,
    (∀ B W hb bs, HpAt B W hb bs u → Calls Try.prog 11 #[.pointer (some ⟨hb, 0, none⟩), .int .i64 k] W fun e W' => e = .returned (.int .i64 m) ∧ Below W.heap.size W W') ∧
    (∀ B W rb, RowsAt B W rb L → Calls Try.prog 18 #[.pointer (some ⟨rb, 0, none⟩), .int .i64 k] W fun e W' => e = .returned (.int .i64 m) ∧ Below W.heap.size W W') := by
  refine ⟨liveN u k, fun B W hb bs h => ?_, fun B W rb h => ?_⟩
  · refine (live_all h k).mono ?_
    rintro e W' ⟨rfl, rfl⟩
    exact ⟨rfl, Below.refl _ _⟩
  · obtain ⟨⟨v, hh, ho⟩, hz⟩ := h
    refine (rlive rb v L.length _ _ _ k W (rows3_of hl hh ho)).mono ?_
    rintro e W' ⟨rfl, rfl⟩
    refine ⟨?_, Below.refl _ _⟩
    have e1 : cnt (fun j => kvL L j == k) L.length = L.countP fun p => ((p.1 : Int) == k) := by
      have := cnt_list (fun p => ((p.1 : Int) == k)) L L.length (Nat.le_refl _)
      rw [List.take_length] at this
      exact this
    rw [e1]
    unfold liveN
    by_cases hk : 0 ≤ k ∧ k < 4
    · rw [if_pos hk, ← hH.count k.toNat (by omega)]
      have e2 : (fun p : Nat × Nat => ((p.1 : Int) == k)) = fun p => p.1 == k.toNat := by
        funext p
        by_cases e : p.1 = k.toNat
        · have : (p.1 : Int) = k := by omega
          rw [beq_iff_eq.2 this, beq_iff_eq.2 e]
        · have : ¬ (p.1 : Int) = k := by omega
          rw [beq_eq_false_iff_ne.2 this, beq_eq_false_iff_ne.2 e]
      rw [e2]
    · rw [if_neg hk]
      have e3 : L.countP (fun p => ((p.1 : Int) == k)) = 0 := by
        rw [List.countP_eq_zero]
        intro p hp
        have := (hH.rng p hp).1
        simp; omega
      rw [e3]; rfl
/-- Within of both. -/
theorem within_both {u : Nat → Nat → Bool} {L : List (Nat × Nat)} (hH : Held u L) (hl : L.length < 100000) (a w : Int) : ∃ r : Bool,
    (∀ B W hb bs, HpAt B W hb bs u → Calls Try.prog 12 #[.pointer (some ⟨hb, 0, none⟩), .int .i64 a, .int .i64 w] W fun e W' => e = .returned (.bool r) ∧ Below W.heap.size W W') ∧
    (∀ B W rb, RowsAt B W rb L → Calls Try.prog 19 #[.pointer (some ⟨rb, 0, none⟩), .int .i64 a, .int .i64 w] W fun e W' => e = .returned (.bool r) ∧ Below W.heap.size W W') := by
  have key : ∃ r : Bool, (r = true ↔ Lies u a w) := by
    by_cases h : Lies u a w
    · exact ⟨true, by simp [h]⟩
    · exact ⟨false, by simp [h]⟩
  obtain ⟨r, hr⟩ := key
  have beq : ∀ {p q : Bool}, (p = true ↔ Lies u a w) → (q = true ↔ Lies u a w) → p = q := by
    intro p q h1 h2
    cases p <;> cases q <;> simp_all
  refine ⟨r, fun B W hb bs h => ?_, fun B W rb h => ?_⟩
  · refine (within_any h a w).mono ?_
    rintro e W' ⟨⟨q, rfl, hq⟩, hb⟩
    exact ⟨by rw [beq hq hr], hb⟩
  · obtain ⟨⟨v, hh, ho⟩, hz⟩ := h
    refine (rwithin rb v L.length _ _ _ a w W (rows3_of hl hh ho) ?_).mono ?_
    · intro j hj
      unfold avL wvL
      rw [getD_at hj]
      obtain ⟨s1, s2⟩ := hH.rng _ (List.getElem_mem hj)
      have := adr_in s1 s2
      have := @szc_pos (L[j]).1
      omega
    · rintro e W' ⟨⟨q, rfl, hq⟩, hb⟩
      refine ⟨?_, hb⟩
      have : (q = true ↔ Lies u a w) := by
        rw [hq]
        constructor
        · rintro ⟨j, hj, hin⟩
          unfold avL wvL at hin
          rw [getD_at hj] at hin
          have hm := List.getElem_mem hj
          obtain ⟨s1, s2⟩ := hH.rng _ hm
          exact ⟨_, _, s1, s2, (hH.mem _ _ s1 s2).2 hm, hin⟩
        · rintro ⟨c, k, s1, s2, s3, hin⟩
          obtain ⟨j, hj, e⟩ := List.getElem_of_mem ((hH.mem c k s1 s2).1 s3)
          refine ⟨j, hj, ?_⟩
          unfold avL wvL
          rw [getD_at hj, e]
          exact hin
      rw [beq this hr]
end Go.Proofs.Ytlpdemdakcjjjaa.W
