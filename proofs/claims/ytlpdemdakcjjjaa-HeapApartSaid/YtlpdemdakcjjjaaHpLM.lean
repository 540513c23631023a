/- The plain law of heaps; Within; the calls at any address. -/
import Derived.Test.YtlpdemdakcjjjaaHpF
import Derived.Test.YtlpdemdakcjjjaaHpRR
namespace Go.Proofs.Ytlpdemdakcjjjaa.W
open Go Go.RowKit Go.Proofs Go.Proofs.Ytlpdemdakcjjjaa.Sx
set_option linter.unusedVariables false
set_option linter.unusedSimpArgs false
theorem adr_apart {c d i j : Nat} (hc : c < 4) (hd : d < 4) (hi : i < nb c) (hj : j < nb d) (h : ¬ (c = d ∧ i = j)) : adr c i + 4 * szc c ≤ adr d j ∨ adr d j + 4 * szc d ≤ adr c i := by
  unfold adr
  match c, hc, d, hd with
  | 0, _, 0, _ => simp [atc, szc, nb] at *; omega
  | 0, _, 1, _ => simp [atc, szc, nb] at *; omega
  | 0, _, 2, _ => simp [atc, szc, nb] at *; omega
  | 0, _, 3, _ => simp [atc, szc, nb] at *; omega
  | 1, _, 0, _ => simp [atc, szc, nb] at *; omega
  | 1, _, 1, _ => simp [atc, szc, nb] at *; omega
  | 1, _, 2, _ => simp [atc, szc, nb] at *; omega
  | 1, _, 3, _ => simp [atc, szc, nb] at *; omega
  | 2, _, 0, _ => simp [atc, szc, nb] at *; omega
  | 2, _, 1, _ => simp [atc, szc, nb] at *; omega
  | 2, _, 2, _ => simp [atc, szc, nb] at *; omega
  | 2, _, 3, _ => simp [atc, szc, nb] at *; omega
  | 3, _, 0, _ => simp [atc, szc, nb] at *; omega
  | 3, _, 1, _ => simp [atc, szc, nb] at *; omega
  | 3, _, 2, _ => simp [atc, szc, nb] at *; omega
  | 3, _, 3, _ => simp [atc, szc, nb] at *; omega
theorem adr_in {c k : Nat} (hc : c < 4) (hk : k < nb c) : 262144 ≤ adr c k ∧ adr c k + 4 * szc c ≤ 273408 ∧ adr c k % 4 = 0 := by
  unfold adr
  match c, hc with
  | 0, _ => simp [atc, szc, nb] at *; omega
  | 1, _ => simp [atc, szc, nb] at *; omega
  | 2, _ => simp [atc, szc, nb] at *; omega
  | 3, _ => simp [atc, szc, nb] at *; omega
/-- Any address lies in a block, or in none. -/
theorem adr_of (a : Int) : (a < 262144 ∨ 273408 ≤ a) ∨ ∃ c k : Nat, ∃ o : Int, c < 4 ∧ k < nb c ∧ 0 ≤ o ∧ o < 4 * szc c ∧ a = adr c k + o := by
  by_cases h0 : a < 262144
  · exact .inl (.inl h0)
  by_cases h1 : a < 263168
  · exact .inr ⟨0, ((a - 262144) / 16).toNat, (a - 262144) % 16, by omega, by simp [nb]; omega, by omega, by simp [szc]; omega, by simp [adr, atc, szc]; omega⟩
  by_cases h2 : a < 265216
  · exact .inr ⟨1, ((a - 263168) / 64).toNat, (a - 263168) % 64, by omega, by simp [nb]; omega, by omega, by simp [szc]; omega, by simp [adr, atc, szc]; omega⟩
  by_cases h3 : a < 269312
  · exact .inr ⟨2, ((a - 265216) / 256).toNat, (a - 265216) % 256, by omega, by simp [nb]; omega, by omega, by simp [szc]; omega, by simp [adr, atc, szc]; omega⟩
  by_cases h4 : a < 273408
  · exact .inr ⟨3, ((a - 269312) / 512).toNat, (a - 269312) % 512, by omega, by simp [nb]; omega, by omega, by simp [szc]; omega, by simp [adr, atc, szc]; omega⟩
  · exact .inl (.inr (by omega))
theorem cnt_on (u : Nat → Nat → Bool) (c p : Nat) (hp : u c p = false) : ∀ n, cnt (upd u c p true c) n = if p < n then cnt (u c) n + 1 else cnt (u c) n
  | 0 => by simp [cnt]
  | n + 1 => by
      have ih := cnt_on u c p hp n
      by_cases e : n = p
      · subst e
        have a : upd u c n true c n = true := by simp [upd]
        rw [if_neg (by omega)] at ih
        rw [if_pos (by omega), cnt_true a, cnt_false hp, ih]
      · have a : upd u c p true c n = u c n := by simp [upd, e]
        cases b : u c n with
        | true =>
            rw [b] at a
            rw [cnt_true a, cnt_true b, ih]
            by_cases h : p < n
            · rw [if_pos h, if_pos (by omega)]
            · rw [if_neg h, if_neg (by omega)]
        | false =>
            rw [b] at a
            rw [cnt_false a, cnt_false b, ih]
            by_cases h : p < n
            · rw [if_pos h, if_pos (by omega)]
            · rw [if_neg h, if_neg (by omega)]
theorem cnt_upd_other (u : Nat → Nat → Bool) (c d p : Nat) (v : Bool) (h : d ≠ c) (n : Nat) : cnt (upd u c p v d) n = cnt (u d) n := by
  have : upd u c p v d = u d := by funext j; simp [upd, h]
  rw [this]
theorem cnt_le' (u : Nat → Bool) : ∀ n, cnt u n ≤ n
  | 0 => by simp [cnt]
  | n + 1 => by
      have := cnt_le' u n
      cases b : u n with
      | true => rw [cnt_true b]; omega
      | false => rw [cnt_false b]; omega
theorem cnt_all (u : Nat → Bool) : ∀ n, (cnt u n = n ↔ ∀ j, j < n → u j = true)
  | 0 => by simp [cnt]
  | n + 1 => by
      have ih := cnt_all u n
      have le := cnt_le' u n
      cases b : u n with
      | true =>
        rw [cnt_true b]
        constructor
        · intro h j hj
          by_cases e : j = n
          · subst e; exact b
          · exact (ih.1 (by omega)) j (by omega)
        · intro h
          have := ih.2 fun j hj => h j (by omega)
          omega
      | false =>
        rw [cnt_false b]
        constructor
        · intro h; omega
        · intro h; have := h n (by omega); rw [b] at this; cases this
/-- The blocks in use are those of a list, each once. -/
structure Held (u : Nat → Nat → Bool) (L : List (Nat × Nat)) : Prop where
  nodup : L.Nodup
  rng : ∀ p ∈ L, p.1 < 4 ∧ p.2 < nb p.1
  mem : ∀ c k, c < 4 → k < nb c → (u c k = true ↔ (c, k) ∈ L)
  count : ∀ c, c < 4 → L.countP (fun p => p.1 == c) = cnt (u c) (nb c)
theorem Held.none : Held (fun _ _ => false) [] := ⟨by simp, by simp, by simp, fun c _ => by
  have : ∀ n, cnt (fun _ => false) n = 0 := fun n => by induction n with | zero => rfl | succ n ih => rw [cnt_false rfl, ih]
  simp [this]⟩
theorem Held.add {u : Nat → Nat → Bool} {L : List (Nat × Nat)} (h : Held u L) {c k : Nat} (hc : c < 4) (hk : k < nb c) (hu : u c k = false) : Held (upd u c k true) (L ++ [(c, k)]) := by
  have hn : (c, k) ∉ L := fun q => by have := (h.mem c k hc hk).2 q; rw [hu] at this; cases this
  refine ⟨?_, ?_, ?_, ?_⟩
  · rw [List.nodup_append]
    refine ⟨h.nodup, by simp, ?_⟩
    intro a ha b hb q
    simp at hb
    subst q
    subst hb
    exact hn ha
  · intro p hp
    rcases List.mem_append.1 hp with hp | hp
    · exact h.rng p hp
    · simp at hp; subst hp; exact ⟨hc, hk⟩
  · intro d j hd hj
    rw [List.mem_append, List.mem_singleton]
    unfold upd
    by_cases e : d = c ∧ j = k
    · obtain ⟨rfl, rfl⟩ := e; simp
    · rw [if_neg e, h.mem d j hd hj]
      constructor
      · exact .inl
      · rintro (q | q)
        · exact q
        · simp at q; exact absurd q e
  · intro d hd
    rw [List.countP_append, h.count d hd]
    by_cases e : d = c
    · subst e
      rw [cnt_on u d k hu, if_pos hk]
      simp
    · rw [cnt_upd_other _ _ _ _ _ e]
      have : (c == d) = false := by simp; exact fun q => e q.symm
      simp [this]
theorem Held.cut {u : Nat → Nat → Bool} {A C : List (Nat × Nat)} {c k : Nat} (h : Held u (A ++ (c, k) :: C)) : Held (upd u c k false) (A ++ C) := by
  obtain ⟨hc, hk⟩ := h.rng (c, k) (by simp)
  have hu : u c k = true := (h.mem c k hc hk).2 (by simp)
  have hnd := h.nodup
  have hn : (c, k) ∉ A ++ C := by
    have := List.perm_middle.nodup_iff.1 hnd
    exact (List.nodup_cons.1 this).1
  refine ⟨?_, ?_, ?_, ?_⟩
  · exact (List.nodup_cons.1 (List.perm_middle.nodup_iff.1 hnd)).2
  · intro p hp
    apply h.rng p
    rcases List.mem_append.1 hp with hp | hp
    · simp [hp]
    · simp [hp]
  · intro d j hd hj
    unfold upd
    by_cases e : d = c ∧ j = k
    · obtain ⟨rfl, rfl⟩ := e; simp; simpa using hn
    · rw [if_neg e, h.mem d j hd hj]
      simp only [List.mem_append, List.mem_cons]
      constructor
      · rintro (q | q | q)
        · exact .inl q
        · simp at q; exact absurd q e
        · exact .inr q
      · rintro (q | q)
        · exact .inl q
        · exact .inr (.inr q)
  · intro d hd
    have hcount := h.count d hd
    rw [List.countP_append, List.countP_cons] at hcount
    rw [List.countP_append]
    by_cases e : d = c
    · subst e
      rw [cnt_off u d k hu, if_pos hk]
      simp at hcount
      omega
    · rw [cnt_upd_other _ _ _ _ _ e]
      have : (c == d) = false := by simp; exact fun q => e q.symm
      simp [this] at hcount
      omega
theorem Held.cutAt {u : Nat → Nat → Bool} {L : List (Nat × Nat)} (h : Held u L) {n : Nat} (hn : n < L.length) : Held (upd u (L[n]).1 (L[n]).2 false) (L.take n ++ L.drop (n + 1)) := by
  have e : L = L.take n ++ (L[n]) :: L.drop (n + 1) := by
    rw [List.getElem_cons_drop, List.take_append_drop]
  apply Held.cut (c := (L[n]).1) (k := (L[n]).2)
  show Held u (L.take n ++ L[n] :: L.drop (n + 1))
  rw [← e]; exact h
end Go.Proofs.Ytlpdemdakcjjjaa.W
namespace Go.Proofs.Ytlpdemdakcjjjaa.W
open Go Go.RowKit Go.Proofs Go.Proofs.Ytlpdemdakcjjjaa.Sx
set_option linter.unusedVariables false
set_option linter.unusedSimpArgs false
theorem within_no (hb : Nat) (a w : Int) (W : World) (h0 : W.cell? ⟨hb, 0, none⟩ = some (.bool true)) (h : ¬ (a.tmod 4 = 0 ∧ 1 ≤ w)) :
    Calls Try.prog 12 #[.pointer (some ⟨hb, 0, none⟩), .int .i64 a, .int .i64 w] W fun e w' => e = .returned (.bool false) ∧ w' = W := by
  cases e1 : (a.tmod 4 != 0) with
  | true =>
    clear h
    go_enter Try.func12, Try.ntmps12
    go_wp2_with (go_at_call 21; refine (none_any hb _ h0).mono ?_; rintro e w' ⟨rfl, rfl⟩)
    go_ret
    exact ⟨rfl, rfl⟩
  | false =>
    have e2 : decide (w < 1) = true := by
      have e3 : a.tmod 4 = 0 := by simpa using e1
      simp; omega
    clear h
    go_enter Try.func12, Try.ntmps12
    go_wp2_with (go_at_call 21; refine (none_any hb _ h0).mono ?_; rintro e w' ⟨rfl, rfl⟩)
    go_ret
    exact ⟨rfl, rfl⟩
theorem within0 (hb : Nat) (a w k o : Int) (ok : Bool) (W : World) (h0 : W.cell? ⟨hb, 0, none⟩ = some (.bool true)) (hm : a.tmod 4 = 0) (hw : 1 ≤ w) (o1 : 0 ≤ o) (o2 : o < 512) (hF : Calls Try.prog 22 #[.pointer (some ⟨hb, 0, none⟩), .int .i64 a] W (Found W 0 k o ok)) :
    Calls Try.prog 12 #[.pointer (some ⟨hb, 0, none⟩), .int .i64 a, .int .i64 w] W fun e w' => e = .returned (.bool (ok && decide (w ≤ 4 - o / 4))) ∧ Below W.heap.size W w' := by
  have i0 : ∀ w, (Instr.index 55 allV (.int .i64 0)).run Try.prog w = .ok (.agg #[.int .i64 4, .int .i64 64, .int .i64 262144]) w := fun _ => by kernel_rfl
  have f0 : ∀ w, (Instr.field 54 (.agg #[.int .i64 4, .int .i64 64, .int .i64 262144]) 0).run Try.prog w = .ok (.int .i64 4) w := fun _ => by kernel_rfl
  have e1 : (a.tmod 4 != 0) = false := by simp [hm]
  have e2 : decide (w < 1) = false := by simp; omega
  clear hm
  cases ok with
  | false =>
    go_enter Try.func12, Try.ntmps12
    go_wp2_with (first | (go_at_call 21; refine (none_any hb _ h0).mono ?_; rintro e w' ⟨rfl, rfl⟩) | (go_at_call 22; refine hF.mono ?_; rintro e W1 ⟨rfl, hb1⟩))
    go_ret
    exact ⟨rfl, hb1⟩
  | true =>
    go_enter Try.func12, Try.ntmps12
    go_wp2_with (first | (go_at_call 21; refine (none_any hb _ h0).mono ?_; rintro e w' ⟨rfl, rfl⟩) | (go_at_call 22; refine hF.mono ?_; rintro e W1 ⟨rfl, hb1⟩) | (go_at_call 20; refine (all_calls _).mono ?_; rintro e W2 ⟨rfl, hb2⟩))
    go_ret
    exact ⟨by simp, hb1.trans (hb2.mono hb1.size)⟩
theorem within1 (hb : Nat) (a w k o : Int) (ok : Bool) (W : World) (h0 : W.cell? ⟨hb, 0, none⟩ = some (.bool true)) (hm : a.tmod 4 = 0) (hw : 1 ≤ w) (o1 : 0 ≤ o) (o2 : o < 512) (hF : Calls Try.prog 22 #[.pointer (some ⟨hb, 0, none⟩), .int .i64 a] W (Found W 1 k o ok)) :
    Calls Try.prog 12 #[.pointer (some ⟨hb, 0, none⟩), .int .i64 a, .int .i64 w] W fun e w' => e = .returned (.bool (ok && decide (w ≤ 16 - o / 4))) ∧ Below W.heap.size W w' := by
  have i0 : ∀ w, (Instr.index 55 allV (.int .i64 1)).run Try.prog w = .ok (.agg #[.int .i64 16, .int .i64 32, .int .i64 263168]) w := fun _ => by kernel_rfl
  have f0 : ∀ w, (Instr.field 54 (.agg #[.int .i64 16, .int .i64 32, .int .i64 263168]) 0).run Try.prog w = .ok (.int .i64 16) w := fun _ => by kernel_rfl
  have e1 : (a.tmod 4 != 0) = false := by simp [hm]
  have e2 : decide (w < 1) = false := by simp; omega
  clear hm
  cases ok with
  | false =>
    go_enter Try.func12, Try.ntmps12
    go_wp2_with (first | (go_at_call 21; refine (none_any hb _ h0).mono ?_; rintro e w' ⟨rfl, rfl⟩) | (go_at_call 22; refine hF.mono ?_; rintro e W1 ⟨rfl, hb1⟩))
    go_ret
    exact ⟨rfl, hb1⟩
  | true =>
    go_enter Try.func12, Try.ntmps12
    go_wp2_with (first | (go_at_call 21; refine (none_any hb _ h0).mono ?_; rintro e w' ⟨rfl, rfl⟩) | (go_at_call 22; refine hF.mono ?_; rintro e W1 ⟨rfl, hb1⟩) | (go_at_call 20; refine (all_calls _).mono ?_; rintro e W2 ⟨rfl, hb2⟩))
    go_ret
    exact ⟨by simp, hb1.trans (hb2.mono hb1.size)⟩
theorem within2 (hb : Nat) (a w k o : Int) (ok : Bool) (W : World) (h0 : W.cell? ⟨hb, 0, none⟩ = some (.bool true)) (hm : a.tmod 4 = 0) (hw : 1 ≤ w) (o1 : 0 ≤ o) (o2 : o < 512) (hF : Calls Try.prog 22 #[.pointer (some ⟨hb, 0, none⟩), .int .i64 a] W (Found W 2 k o ok)) :
    Calls Try.prog 12 #[.pointer (some ⟨hb, 0, none⟩), .int .i64 a, .int .i64 w] W fun e w' => e = .returned (.bool (ok && decide (w ≤ 64 - o / 4))) ∧ Below W.heap.size W w' := by
  have i0 : ∀ w, (Instr.index 55 allV (.int .i64 2)).run Try.prog w = .ok (.agg #[.int .i64 64, .int .i64 16, .int .i64 265216]) w := fun _ => by kernel_rfl
  have f0 : ∀ w, (Instr.field 54 (.agg #[.int .i64 64, .int .i64 16, .int .i64 265216]) 0).run Try.prog w = .ok (.int .i64 64) w := fun _ => by kernel_rfl
  have e1 : (a.tmod 4 != 0) = false := by simp [hm]
  have e2 : decide (w < 1) = false := by simp; omega
  clear hm
  cases ok with
  | false =>
    go_enter Try.func12, Try.ntmps12
    go_wp2_with (first | (go_at_call 21; refine (none_any hb _ h0).mono ?_; rintro e w' ⟨rfl, rfl⟩) | (go_at_call 22; refine hF.mono ?_; rintro e W1 ⟨rfl, hb1⟩))
    go_ret
    exact ⟨rfl, hb1⟩
  | true =>
    go_enter Try.func12, Try.ntmps12
    go_wp2_with (first | (go_at_call 21; refine (none_any hb _ h0).mono ?_; rintro e w' ⟨rfl, rfl⟩) | (go_at_call 22; refine hF.mono ?_; rintro e W1 ⟨rfl, hb1⟩) | (go_at_call 20; refine (all_calls _).mono ?_; rintro e W2 ⟨rfl, hb2⟩))
    go_ret
    exact ⟨by simp, hb1.trans (hb2.mono hb1.size)⟩
theorem within3 (hb : Nat) (a w k o : Int) (ok : Bool) (W : World) (h0 : W.cell? ⟨hb, 0, none⟩ = some (.bool true)) (hm : a.tmod 4 = 0) (hw : 1 ≤ w) (o1 : 0 ≤ o) (o2 : o < 512) (hF : Calls Try.prog 22 #[.pointer (some ⟨hb, 0, none⟩), .int .i64 a] W (Found W 3 k o ok)) :
    Calls Try.prog 12 #[.pointer (some ⟨hb, 0, none⟩), .int .i64 a, .int .i64 w] W fun e w' => e = .returned (.bool (ok && decide (w ≤ 128 - o / 4))) ∧ Below W.heap.size W w' := by
  have i0 : ∀ w, (Instr.index 55 allV (.int .i64 3)).run Try.prog w = .ok (.agg #[.int .i64 128, .int .i64 8, .int .i64 269312]) w := fun _ => by kernel_rfl
  have f0 : ∀ w, (Instr.field 54 (.agg #[.int .i64 128, .int .i64 8, .int .i64 269312]) 0).run Try.prog w = .ok (.int .i64 128) w := fun _ => by kernel_rfl
  have e1 : (a.tmod 4 != 0) = false := by simp [hm]
  have e2 : decide (w < 1) = false := by simp; omega
  clear hm
  cases ok with
  | false =>
    go_enter Try.func12, Try.ntmps12
    go_wp2_with (first | (go_at_call 21; refine (none_any hb _ h0).mono ?_; rintro e w' ⟨rfl, rfl⟩) | (go_at_call 22; refine hF.mono ?_; rintro e W1 ⟨rfl, hb1⟩))
    go_ret
    exact ⟨rfl, hb1⟩
  | true =>
    go_enter Try.func12, Try.ntmps12
    go_wp2_with (first | (go_at_call 21; refine (none_any hb _ h0).mono ?_; rintro e w' ⟨rfl, rfl⟩) | (go_at_call 22; refine hF.mono ?_; rintro e W1 ⟨rfl, hb1⟩) | (go_at_call 20; refine (all_calls _).mono ?_; rintro e W2 ⟨rfl, hb2⟩))
    go_ret
    exact ⟨by simp, hb1.trans (hb2.mono hb1.size)⟩
end Go.Proofs.Ytlpdemdakcjjjaa.W
namespace Go.Proofs.Ytlpdemdakcjjjaa.W
open Go Go.RowKit Go.Proofs Go.Proofs.Ytlpdemdakcjjjaa.Sx
set_option linter.unusedVariables false
set_option linter.unusedSimpArgs false
theorem inRow_iff (a w x y : Int) : InRow a w x y = true ↔ a.tmod 4 = 0 ∧ 1 ≤ w ∧ x ≤ a ∧ a < x + 4 * y ∧ w ≤ y - (a - x).tdiv 4 := by
  unfold InRow
  simp [Bool.and_eq_true]
theorem szc_pos {c : Nat} : 4 ≤ szc c ∧ szc c ≤ 128 := by unfold szc; constructor <;> (repeat' split) <;> omega
/-- Whether so many words at an address lie in a block in use. -/
def Lies (u : Nat → Nat → Bool) (a w : Int) : Prop := ∃ c k, c < 4 ∧ k < nb c ∧ u c k = true ∧ InRow a w (adr c k) (szc c) = true
theorem same_block {c k d j : Nat} {o : Int} (hc : c < 4) (hk : k < nb c) (hd : d < 4) (hj : j < nb d) (o1 : 0 ≤ o) (o2 : o < 4 * szc c) (h1 : adr d j ≤ adr c k + o) (h2 : adr c k + o < adr d j + 4 * szc d) : d = c ∧ j = k := by
  by_cases e : d = c ∧ j = k
  · exact e
  · exfalso
    rcases adr_apart hd hc hj hk e with h | h <;> omega
theorem within_any {B : Nat} {W : World} {hb : Nat} {bs : Nat → Nat} {u : Nat → Nat → Bool} (h : HpAt B W hb bs u) (a w : Int) :
    Calls Try.prog 12 #[.pointer (some ⟨hb, 0, none⟩), .int .i64 a, .int .i64 w] W fun e w' => (∃ r, e = .returned (.bool r) ∧ (r = true ↔ Lies u a w)) ∧ Below W.heap.size W w' := by
  by_cases hn : a.tmod 4 = 0 ∧ 1 ≤ w
  · obtain ⟨hm, hw⟩ := hn
    rcases adr_of a with ho | ⟨c, k, o, hc, hk, o1, o2, ha⟩
    · refine (within0 hb a w 0 0 false W h.made hm hw (by omega) (by omega) (find_no hb a ho W)).mono ?_
      rintro e w' ⟨rfl, hB⟩
      refine ⟨⟨_, rfl, ?_⟩, hB⟩
      constructor
      · intro q; simp at q
      · rintro ⟨c, k, hc, hk, _, hr⟩
        obtain ⟨_, _, r1, r2, _⟩ := (inRow_iff _ _ _ _).1 hr
        have := adr_in hc hk
        omega
    · have hF := find_any h hc hk o1 o2
      have ha' : atc c + 4 * szc c * k + o = a := by rw [ha]; rfl
      rw [ha'] at hF
      have ho : o < 512 := by have := (@szc_pos c).2; omega
      have e : a - adr c k = o := by omega
      have hd : o.tdiv 4 = o / 4 := Int.tdiv_eq_ediv_of_nonneg o1
      have key : (u c k && decide (w ≤ szc c - o / 4)) = true ↔ Lies u a w := by
        rw [Bool.and_eq_true, decide_eq_true_eq]
        constructor
        · rintro ⟨q1, q2⟩
          exact ⟨c, k, hc, hk, q1, (inRow_iff _ _ _ _).2 ⟨hm, hw, by omega, by omega, by rw [e, hd]; exact q2⟩⟩
        · rintro ⟨d, j, hd', hj, q1, hr⟩
          obtain ⟨_, _, r1, r2, r3⟩ := (inRow_iff _ _ _ _).1 hr
          obtain ⟨rfl, rfl⟩ := same_block hc hk hd' hj o1 o2 (by omega) (by omega)
          rw [e, hd] at r3
          exact ⟨q1, r3⟩
      clear ha'
      match c, hc, hF, key with
      | 0, _, hF, key => exact (within0 hb a w k o (u 0 k) W h.made hm hw o1 ho hF).mono fun e w' ⟨p, q⟩ => ⟨⟨_, p, by simpa [szc] using key⟩, q⟩
      | 1, _, hF, key => exact (within1 hb a w k o (u 1 k) W h.made hm hw o1 ho hF).mono fun e w' ⟨p, q⟩ => ⟨⟨_, p, by simpa [szc] using key⟩, q⟩
      | 2, _, hF, key => exact (within2 hb a w k o (u 2 k) W h.made hm hw o1 ho hF).mono fun e w' ⟨p, q⟩ => ⟨⟨_, p, by simpa [szc] using key⟩, q⟩
      | 3, _, hF, key => exact (within3 hb a w k o (u 3 k) W h.made hm hw o1 ho hF).mono fun e w' ⟨p, q⟩ => ⟨⟨_, p, by simpa [szc] using key⟩, q⟩
  · refine (within_no hb a w W h.made hn).mono ?_
    rintro e w' ⟨rfl, rfl⟩
    refine ⟨⟨_, rfl, ?_⟩, Below.refl _ _⟩
    constructor
    · intro q; cases q
    · rintro ⟨c, k, hc, hk, _, hr⟩
      obtain ⟨r0, r1, _⟩ := (inRow_iff _ _ _ _).1 hr
      exact absurd ⟨r0, r1⟩ hn
/-- A block in use begins at an address. -/
def Begins (u : Nat → Nat → Bool) (a : Int) (c k : Nat) : Prop := c < 4 ∧ k < nb c ∧ u c k = true ∧ a = adr c k
theorem free_no {B : Nat} {W : World} {hb : Nat} {bs : Nat → Nat} {u : Nat → Nat → Bool} (h : HpAt B W hb bs u) (a : Int) (hn : ∀ c k, ¬ Begins u a c k) :
    Calls Try.prog 10 #[.pointer (some ⟨hb, 0, none⟩), .int .i64 a] W fun e w' => e = .returned (.int .i64 13) ∧ Below W.heap.size W w' := by
  rcases adr_of a with ho | ⟨c, k, o, hc, hk, o1, o2, ha⟩
  · exact free_err hb a 0 0 0 false W h.made (find_no hb a ho W) (.inl rfl)
  · have hF := find_any h hc hk o1 o2
    have ha' : atc c + 4 * szc c * k + o = a := by rw [ha]; rfl
    rw [ha'] at hF
    refine free_err hb a c k o (u c k) W h.made hF ?_
    cases q : u c k with
    | false => exact .inl rfl
    | true => exact .inr ⟨rfl, fun e => hn c k ⟨hc, hk, q, by rw [ha, e]; omega⟩⟩
theorem free_yes {B : Nat} {W : World} {hb : Nat} {bs : Nat → Nat} {u : Nat → Nat → Bool} (h : HpAt B W hb bs u) {a : Int} {c k : Nat} (hB : Begins u a c k) :
    Calls Try.prog 10 #[.pointer (some ⟨hb, 0, none⟩), .int .i64 a] W fun e W' => e = .returned (.int .i64 0) ∧ HpAt B W' hb bs (upd u c k false) ∧ Fr (bs c) W W' := by
  obtain ⟨hc, hk, huk, rfl⟩ := hB
  exact free_hit h hc hk huk
/-- How many blocks of a class are in use. -/
def liveN (u : Nat → Nat → Bool) (k : Int) : Int := if 0 ≤ k ∧ k < 4 then cnt (u k.toNat) (nb k.toNat) else 0
theorem live_all {B : Nat} {W : World} {hb : Nat} {bs : Nat → Nat} {u : Nat → Nat → Bool} (h : HpAt B W hb bs u) (k : Int) :
    Calls Try.prog 11 #[.pointer (some ⟨hb, 0, none⟩), .int .i64 k] W fun e w' => e = .returned (.int .i64 (liveN u k)) ∧ w' = W := by
  unfold liveN
  by_cases hk : 0 ≤ k ∧ k < 4
  · rw [if_pos hk]
    have := live_any h (c := k.toNat) (by omega)
    rw [show ((k.toNat : Nat) : Int) = k by omega] at this
    exact this
  · rw [if_neg hk]
    exact live_no hb k (by omega) W h.made
theorem inClass_le {c : Nat} {w : Int} (hc : c < 4) (h : InClass c w) : w ≤ szc c := by
  obtain ⟨h1, h2, h3⟩ := h
  unfold clsK at h1
  match c, hc with
  | 0, _ => simp [szc]; repeat' split at h1 <;> simp at h1 <;> omega
  | 1, _ => simp [szc]; repeat' split at h1 <;> simp at h1 <;> omega
  | 2, _ => simp [szc]; repeat' split at h1 <;> simp at h1 <;> omega
  | 3, _ => simp [szc]; repeat' split at h1 <;> simp at h1 <;> omega
end Go.Proofs.Ytlpdemdakcjjjaa.W
