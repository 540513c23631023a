/- ferruleref05.look, Known, Copy; small. -/
import Derived.Test.YtioediibbgklcaaTyPn
import Derived.Deep.DeepCutAuto
namespace Go.Proofs.Ytioediibbgklcaa.W
open Go Go.RowKit Go.Proofs
set_option linter.unusedVariables false
set_option linter.unusedSimpArgs false
/-- What look answers. -/
structure LookT (o : Option (Nat × Bool)) (e : Ending) : Prop where
  yes : ∀ b m, o = some (b, m) → e = .returned (.tuple #[.int .i64 (b : Nat), .bool m])
  no : o = none → e = .returned (.tuple #[.int .i64 (-1), .bool false])
theorem lookT_yes {o : Option (Nat × Bool)} {e : Ending} {b : Nat} {m : Bool} (h : o = some (b, m)) (h' : e = .returned (.tuple #[.int .i64 (b : Nat), .bool m])) : LookT o e := ⟨fun b' m' hu => by rw [h] at hu; injection hu with hu; injection hu with h1 h2; subst h1 h2; exact h', fun hu => by rw [h] at hu; cases hu⟩
theorem lookT_no {o : Option (Nat × Bool)} {e : Ending} (h : o = none) (h' : e = .returned (.tuple #[.int .i64 (-1), .bool false])) : LookT o e := ⟨fun b m hu => (by rw [h] at hu; cases hu), fun _ => h'⟩
/-- A look's state within its loop. -/
structure LookAt (o : Option (Nat × Bool)) (rv mv : Value) : Prop where
  yes : ∀ b m, o = some (b, m) → rv = .int .i64 (b : Nat) ∧ mv = .bool m ∧ b ≤ 512
  no : o = none → rv = .int .i64 (-1) ∧ mv = .bool false
theorem lookL_none {look : Looker} (ts us : List Ty) (b : Nat) (m : Bool) (h : lookL look ts b m = none) : lookL look (ts ++ us) b m = none := by
  rw [lookL_append, h]; rfl
theorem lookL_snoc {look : Looker} (ts : List Ty) (t : Ty) (b b' : Nat) (m m' : Bool) (h : lookL look ts b m = some (b', m')) : lookL look (ts ++ [t]) b m = (match look t b' with
    | none => none
    | some (b'', m'') => some (b'', m' && m'')) := by
  rw [lookL_append, h]
  simp only [Option.bind_some, lookL]
  cases look t b' with
  | none => rfl
  | some p => rfl
theorem lookL_le {look : Looker} (h : ∀ t b b' m, look t b = some (b', m) → b' ≤ b) : ∀ (ts : List Ty) (b b' : Nat) (m m' : Bool), lookL look ts b m = some (b', m') → b' ≤ b
  | [], b, b', m, m', e => by simp only [lookL, Option.some.injEq, Prod.mk.injEq] at e; omega
  | t :: ts, b, b', m, m', e => by
    simp only [lookL] at e
    cases hc : look t b with
    | none => rw [hc] at e; simp at e
    | some p =>
      rw [hc] at e
      have h1 := h t b p.1 p.2 hc
      have h2 := lookL_le h ts _ _ _ _ e
      omega
theorem lookS_le (its : List It) : ∀ f t b b' m, lookS its f t b = some (b', m) → b' ≤ b
  | 0, t, b, b', m, e => by simp [lookS] at e
  | f + 1, t, 0, b', m, e => by simp [lookS] at e
  | f + 1, t, b + 1, b', m, e => by
    simp only [lookS] at e
    cases hp : partsS its t with
    | none => rw [hp] at e; simp at e
    | some ts =>
      rw [hp] at e
      have := lookL_le (fun t b b' m h => lookS_le its f t b b' m h) ts _ _ _ _ e
      omega
theorem partsS_len {its : List It} (hF : FewOf its) {t : Ty} {ts : List Ty} (h : partsS its t = some ts) : ts.length ≤ 90000 := by
  by_cases h9 : t.kind = 9
  · rcases parts_named (its := its) h9 with ⟨_, hp⟩ | ⟨k, it, _, hit, _, hp⟩
    · rw [hp] at h; cases h
    · have hs := hF.each k it hit
      rw [hp] at h
      split at h
      · injection h with h; subst h; have := hs.ps; simp; omega
      · injection h with h; subst h
        have h1 := flat_len it.vs (fun p hp => by obtain ⟨i, hi⟩ := List.getElem?_of_mem hp; exact hs.each i p hi)
        have := hs.vs
        omega
  · unfold partsS at h
    rw [if_neg h9] at h
    split at h
    · injection h with h; subst h; simp
    · split at h
      · cases h
      · split at h
        · cases h
        · split at h
          · injection h with h; subst h; simp; omega
          · injection h with h; subst h; simp
set_option maxHeartbeats 4000000 in
set_option maxRecDepth 100000 in
theorem look_calls (W0 : World) (la : Option Addr) (its : List It) (lc : Nat) (hn : its.length ≤ 9223372036854775807) (hI : ItsAt W0 la its) (hF : FewOf its) : ∀ (f : Nat) (W : World) (t : Ty) (ea : Option Addr) (ec b : Nat), b < f → b ≤ 512 → Below W0.heap.size W0 W → TyAt W0 (cells4of t ea ec) t →
    Calls Try.prog 30 #[.slice la its.length lc, .agg (cells4of t ea ec).toArray, .int .i64 (b : Nat)] W fun e w' => LookT (lookS its f t b) e ∧ Below W.heap.size W w' := by
  intro f
  induction f with
  | zero => intro W t ea ec b h; omega
  | succ f ih =>
  intro W t ea ec b hbf hb5 hb hT
  have hcall := fun X hX => parts_calls W0 X hX la its lc hn hI hF t ea ec hT
  obtain ⟨nn, hnl⟩ : ∃ nn, its.length = nn := ⟨_, rfl⟩
  rw [hnl] at hcall ih ⊢
  go_enter Try.func30, Try.ntmps30
  go_upto_region 1 with fail
  have hb1 : Below W.heap.size W (W.alloc (.cells (cells4of t ea ec).toArray 26)) := (Below.refl _ _).alloc (Nat.le_refl _) _
  have hT1 := heap_alloc_new W (.cells (cells4of t ea ec).toArray 26)
  show Code.wp Try.prog _ _ _ (W.alloc (.cells (cells4of t ea ec).toArray 26))
  obtain ⟨w1, hw1⟩ : ∃ y, W.alloc (.cells (cells4of t ea ec).toArray 26) = y := ⟨_, rfl⟩
  rw [hw1] at hb1 hT1 ⊢
  have e0 : w1.cell? ⟨W.heap.size, 0, none⟩ = some (.int .i64 t.kind) := by rw [cell_of_row _ _ _ _ 26 (0, 0) hT1]; rfl
  have e1 : w1.cell? ⟨W.heap.size, 1, none⟩ = some (.string t.name) := by rw [cell_of_row _ _ _ _ 26 (0, 0) hT1]; rfl
  have e2 : w1.cell? ⟨W.heap.size, 2, none⟩ = some (.int .i64 t.n) := by rw [cell_of_row _ _ _ _ 26 (0, 0) hT1]; rfl
  have e3 : w1.cell? ⟨W.heap.size, 3, none⟩ = some (.slice ea t.el.length ec) := by rw [cell_of_row _ _ _ _ 26 (0, 0) hT1]; rfl
  have hc : Calls Try.prog 36 #[.slice la nn lc, .agg #[.int .i64 t.kind, .string t.name, .int .i64 t.n, .slice ea t.el.length ec]] w1 _ := hcall w1 (hb.trans (hb1.mono hb.size))
  clear hw1 hcall hT1 hT
  cases hp : partsS its t with
  | none =>
    have hl : lookS its (f + 1) t b = none := by
      cases b with
      | zero => rfl
      | succ b => simp only [lookS, hp]
    have HL := Lib.hid hl
    clear hl
    go_wp2_with (go_at_call 36; refine hc.mono ?_; rintro e w2 ⟨hPT, hb2⟩; obtain ⟨v, rfl⟩ := hPT.no hp)
    exact bodyPost_ret (v := .tuple #[.int .i64 (-1), .bool false]) (by simp [results, Try.results30, go_sem]) rfl ⟨lookT_no HL.out rfl, hb1.trans (hb2.mono hb1.size)⟩
  | some ts =>
    cases b with
    | zero =>
      have HL := Lib.hid (show lookS its (f + 1) t 0 = none from rfl)
      go_wp2_with (go_at_call 36; refine hc.mono ?_; rintro e w2 ⟨hPT, hb2⟩; obtain ⟨v, rfl, hrow⟩ := hPT.yes ts hp)
      exact bodyPost_ret (v := .tuple #[.int .i64 (-1), .bool false]) (by simp [results, Try.results30, go_sem]) rfl ⟨lookT_no HL.out rfl, hb1.trans (hb2.mono hb1.size)⟩
    | succ b =>
      have hl : lookS its (f + 1) t (b + 1) = lookL (lookS its f) ts b (decide (t.kind ≠ 11) && decide (t.kind ≠ 13)) := by simp only [lookS, hp]
      have HL := Lib.hid hl
      clear hl
      have hb1' : ¬ ((b : Int) + 1 < 1) := by omega
      go_upto_region 5 with (go_at_call 36; refine hc.mono ?_; rintro e w2 ⟨hPT, hb2⟩; obtain ⟨v, rfl, hrow⟩ := hPT.yes ts hp)
      have hB2 := hb1.trans (hb2.mono hb1.size)
      have f0 := (hb2.cell (p := ⟨W.heap.size, 0, none⟩) (cell_lt e0)).trans e0
      obtain ⟨m0, hm0⟩ : ∃ m0, (decide (t.kind ≠ 11) && decide (t.kind ≠ 13)) = m0 := ⟨_, rfl⟩
      rw [hm0] at HL
      have HM := Lib.hid hm0
      clear hm0 e0 e1 e2 e3 hc
      obtain ⟨ra, rc, rfl, hrt⟩ := hrow.ex
      have hn9 := partsS_len hF hp
      obtain ⟨n, hnt⟩ : ∃ n, ts.length = n := ⟨_, rfl⟩
      rw [hnt] at hn9 ⊢
      have HN := Lib.hid hnt
      clear hnt hrow hPT
      go_cut [10] (fun mv wx => mv = .bool m0 ∧ w2 = wx)
      case first =>
        go_wp2
        all_goals
          go_meet
          refine ⟨?_, rfl⟩
          rw [← HM.out]
          congr 1
          by_cases h11 : t.kind = 11 <;> by_cases h13 : t.kind = 13 <;> simp_all
      case rest =>
        obtain ⟨rfl, rfl⟩ := hcut
        have hfb : b < f := by omega
        go_wp2
        go_loopw [2, 10, 11] (fun rv mv i wr => ∃ j : Nat, i = .int .i64 j ∧ j ≤ n ∧ Below w2.heap.size w2 wr ∧ LookAt (lookL (lookS its f) (ts.take j) b m0) rv mv) (fun _ _ i _ => n - (intOf i).toNat)
        case atStart => exact ⟨0, rfl, Nat.zero_le _, Below.refl _ _, ⟨fun b' m' h => by simp [lookL] at h; obtain ⟨rfl, rfl⟩ := h; exact ⟨rfl, rfl, by omega⟩, fun h => by simp [lookL] at h⟩⟩
        case round =>
          obtain ⟨j, rfl, hj, hB, hLA⟩ := hrel
          have hB1 := hB2.trans (hB.mono hB2.size)
          have hB0 := hb.trans (hB1.mono hb.size)
          cases hlk : lookL (lookS its f) (ts.take j) b m0 with
          | none =>
            obtain ⟨rfl, rfl⟩ := hLA.no hlk
            have hall : lookS its (f + 1) t (b + 1) = none := by
              rw [HL.out, ← List.take_append_drop j ts]
              exact lookL_none _ _ _ _ hlk
            have HA := Lib.hid hall
            clear hall hlk hLA
            by_cases hjn : j < n
            · go_wp2
              exact bodyPost_ret (v := .tuple #[.int .i64 (-1), .bool false]) (by simp [results, Try.results30, go_sem]) rfl ⟨lookT_no HA.out rfl, hB1⟩
            · go_wp2
              exact bodyPost_ret (v := .tuple #[.int .i64 (-1), .bool false]) (by simp [results, Try.results30, go_sem]) rfl ⟨lookT_no HA.out rfl, hB1⟩
          | some q =>
            obtain ⟨b', m'⟩ := q
            obtain ⟨rfl, rfl, hb'⟩ := hLA.yes b' m' hlk
            have hb'b := lookL_le (fun t b b' m h => lookS_le its f t b b' m h) _ _ _ _ _ hlk
            have hb0' : (0 : Int) ≤ (b' : Int) := by omega
            by_cases hjn : j < n
            · obtain ⟨u, hu⟩ : ∃ u, ts[j]? = some u := ⟨_, List.getElem?_eq_getElem (by have := HN.out; omega)⟩
              obtain ⟨b2, o2, ua, uc, rfl, x0, x1, x2, x3, hTu⟩ := hrt j u hu
              have z0 := (hB.cell (p := ⟨b2, o2 + j * 4, none⟩) (cell_lt x0)).trans x0
              have z1 := (hB.cell (p := ⟨b2, o2 + j * 4 + 1, none⟩) (cell_lt x1)).trans x1
              have z2 := (hB.cell (p := ⟨b2, o2 + j * 4 + 2, none⟩) (cell_lt x2)).trans x2
              have z3 := (hB.cell (p := ⟨b2, o2 + j * 4 + 3, none⟩) (cell_lt x3)).trans x3
              have hrec := ih wr u ua uc b' (by omega) hb' hB0 hTu
              have hrec : Calls Try.prog 30 #[.slice la nn lc, .agg #[.int .i64 u.kind, .string u.name, .int .i64 u.n, .slice ua u.el.length uc], .int .i64 (b' : Nat)] wr _ := hrec
              have htk : ts.take (j + 1) = ts.take j ++ [u] := by rw [List.take_add_one, hu]; rfl
              have hsn := lookL_snoc (look := lookS its f) _ u _ _ _ _ hlk
              rw [← htk] at hsn
              have HS := Lib.hid hsn
              clear hsn htk hlk hLA x0 x1 x2 x3
              cases hlu : lookS its f u b' with
              | none =>
                have hs := HS.out
                rw [hlu] at hs
                have HS2 := Lib.hid hs
                clear hs
                cases m'
                all_goals
                  go_wp2_with (go_at_call 30; refine hrec.mono ?_; rintro e w3 ⟨hLT, hb3⟩; obtain rfl := hLT.no hlu)
                  have hB3 := hB.trans (hb3.mono hB.size)
                  go_roundw
                  case rel =>
                    have hs := HS2.out
                    exact ⟨j + 1, by go_num, by omega, hB3, ⟨fun b m h => (by rw [hs] at h; cases h), fun _ => ⟨rfl, rfl⟩⟩⟩
                  case measure => simp [intOf]; omega
              | some r =>
                obtain ⟨b3, m3⟩ := r
                have hb3b := lookS_le its f u b' b3 m3 hlu
                have hs := HS.out
                rw [hlu] at hs
                have HS2 := Lib.hid hs
                clear hs
                cases m'
                all_goals
                  go_wp2_with (go_at_call 30; refine hrec.mono ?_; rintro e w3 ⟨hLT, hb3⟩; obtain rfl := hLT.yes b3 m3 hlu)
                  have hB3 := hB.trans (hb3.mono hB.size)
                  go_roundw
                  case rel =>
                    have hs := HS2.out
                    exact ⟨j + 1, by go_num, by omega, hB3, ⟨fun b m h => (by rw [hs] at h; simp at h; obtain ⟨rfl, rfl⟩ := h; exact ⟨rfl, rfl, by omega⟩), fun h => (by rw [hs] at h; cases h)⟩⟩
                  case measure => simp [intOf]; omega
            · obtain rfl : j = n := by omega
              have hall : lookS its (f + 1) t (b + 1) = some (b', m') := by
                rw [HL.out, ← hlk, List.take_of_length_le (by have := HN.out; omega)]
              have HA := Lib.hid hall
              clear hall hlk hLA
              cases m'
              all_goals
                go_wp2
                exact bodyPost_ret (v := .tuple #[.int .i64 (b' : Nat), .bool _]) (by simp [results, Try.results30, go_sem]) rfl ⟨lookT_yes HA.out rfl, hB1⟩
theorem PsAt.keep {W w : World} {a : Option Addr} {ps : List (ByteArray × Ty)} (h : PsAt W a ps) (hb : Below W.heap.size W w) : PsAt w a ps := fun i p hp => by
  obtain ⟨b, o, mu, x, c0, c1, c2, c3, h0, x0, x1, x2, x3, x4, x5, x6, h1⟩ := h i p hp
  exact ⟨b, o, mu, x, c0, c1, c2, c3, h0, keep_cell hb x0, keep_cell hb x1, keep_cell hb x2, keep_cell hb x3, keep_cell hb x4, keep_cell hb x5, keep_cell hb x6, h1.keep hb⟩
theorem ItAt.keep {W w : World} {cs : List Value} {it : It} (h : ItAt W cs it) (hb : Below W.heap.size W w) : ItAt w cs it := by
  obtain ⟨pa, pc, va, vc, t, h0, h1, h2, h3, h4⟩ := h.ex
  exact ⟨pa, pc, va, vc, t, h0, h1, h2, h3.keep hb, h4.keep hb⟩
theorem its_keep {W w : World} {a : Option Addr} {its : List It} (h : ItsAt W a its) (hb : Below W.heap.size W w) : ItsAt w a its := fun i it hi => by
  obtain ⟨b, o, cs, h0, h1, h2, h3⟩ := h i it hi
  refine ⟨b, o, cs, h0, h1, fun j hj => ?_, h3.keep hb⟩
  have h4 := h2 j hj
  rw [List.getElem?_eq_getElem (by omega)] at h4 ⊢
  exact keep_cell hb h4
/-- A type of one type, made anew. -/
theorem one_at {w : World} {t : Ty} {a : Option Addr} {c : Nat} (hT : TyAt w (cells4of t a c) t) (kd : Int) (nm : ByteArray) (n : Int) : TyAt (w.alloc (.cells (cells4of t a c).toArray 26)) [.int .i64 kd, .string nm, .int .i64 n, .slice (some ⟨w.heap.size, 0, none⟩) 1 1] (.mk kd nm n [t]) := by
  have hb : Below w.heap.size w (w.alloc (.cells (cells4of t a c).toArray 26)) := (Below.refl _ _).alloc (Nat.le_refl _) _
  refine .mk kd nm n (some ⟨w.heap.size, 0, none⟩) 1 [t] (by simp) w.heap.size 0 (fun _ j => ((cells4of t a c)[j]?).getD (.bool false)) (fun _ => rfl) (fun i j hi hj => ?_) (fun i u hi => ?_)
  · have hi0 : i = 0 := by simp at hi; exact hi
    subst hi0
    rw [show 0 + 0 * 4 + j = j by omega, cell_of_row _ _ _ _ 26 (0, 0) (heap_alloc_new w _)]
    match j, hj with
    | 0, _ => rfl
    | 1, _ => rfl
    | 2, _ => rfl
    | 3, _ => rfl
  · match i, hi with
    | 0, hi => simp at hi; subst hi; exact hT.keep hb
    | i + 1, hi => simp at hi
/-- Whether a type is known and small. -/
theorem look_measure (its : List It) (t : Ty) : lookS its 513 t 512 = (addS its 513 512 t).map (fun r => (r.1, !r.2.moves)) := (add_look its 513 t 512 (by omega)).symm
set_option maxHeartbeats 4000000 in
set_option maxRecDepth 100000 in
theorem known_calls (W0 W : World) (hb : Below W0.heap.size W0 W) (la : Option Addr) (its : List It) (lc : Nat) (hn : its.length ≤ 9223372036854775807) (hI : ItsAt W0 la its) (hF : FewOf its) (t : Ty) (ea : Option Addr) (ec : Nat) (hT : TyAt W0 (cells4of t ea ec) t) :
    Calls Try.prog 23 #[.slice la its.length lc, .agg (cells4of t ea ec).toArray] W fun e w' => e = .returned (.bool (measureS its t).isSome) ∧ Below W.heap.size W w' := by
  have hcall := fun X hX => look_calls W0 la its lc hn hI hF 513 X t ea ec 512 (by omega) (by omega) hX hT
  have hms : (measureS its t).isSome = (lookS its 513 t 512).isSome := by rw [look_measure]; unfold measureS; cases addS its 513 512 t <;> rfl
  have HM := Lib.hid hms
  obtain ⟨nn, hnl⟩ : ∃ nn, its.length = nn := ⟨_, rfl⟩
  rw [hnl] at hcall ⊢
  clear hms
  go_enter Try.func23, Try.ntmps23
  go_upto_region 1 with fail
  have hb1 : Below W.heap.size W (W.alloc (.cells (cells4of t ea ec).toArray 26)) := (Below.refl _ _).alloc (Nat.le_refl _) _
  have hT1 := heap_alloc_new W (.cells (cells4of t ea ec).toArray 26)
  show Code.wp Try.prog _ _ _ (W.alloc (.cells (cells4of t ea ec).toArray 26))
  obtain ⟨w1, hw1⟩ : ∃ y, W.alloc (.cells (cells4of t ea ec).toArray 26) = y := ⟨_, rfl⟩
  rw [hw1] at hb1 hT1 ⊢
  have e0 : w1.cell? ⟨W.heap.size, 0, none⟩ = some (.int .i64 t.kind) := by rw [cell_of_row _ _ _ _ 26 (0, 0) hT1]; rfl
  have e1 : w1.cell? ⟨W.heap.size, 1, none⟩ = some (.string t.name) := by rw [cell_of_row _ _ _ _ 26 (0, 0) hT1]; rfl
  have e2 : w1.cell? ⟨W.heap.size, 2, none⟩ = some (.int .i64 t.n) := by rw [cell_of_row _ _ _ _ 26 (0, 0) hT1]; rfl
  have e3 : w1.cell? ⟨W.heap.size, 3, none⟩ = some (.slice ea t.el.length ec) := by rw [cell_of_row _ _ _ _ 26 (0, 0) hT1]; rfl
  have hc : Calls Try.prog 30 #[.slice la nn lc, .agg #[.int .i64 t.kind, .string t.name, .int .i64 t.n, .slice ea t.el.length ec], .int .i64 512] w1 _ := hcall w1 (hb.trans (hb1.mono hb.size))
  clear hw1 hcall hT1
  cases hl : lookS its 513 t 512 with
  | none =>
    rw [hl] at HM
    go_wp2_with (go_at_call 30; refine hc.mono ?_; rintro e w2 ⟨hLT, hb2⟩; obtain rfl := hLT.no hl)
    exact bodyPost_ret (v := .bool false) (by simp [results, Try.results23, go_sem]) rfl ⟨by rw [HM.out]; rfl, hb1.trans (hb2.mono hb1.size)⟩
  | some r =>
    obtain ⟨b, m⟩ := r
    rw [hl] at HM
    have hb0 : (0 : Int) ≤ (b : Nat) := by omega
    go_wp2_with (go_at_call 30; refine hc.mono ?_; rintro e w2 ⟨hLT, hb2⟩; obtain rfl := hLT.yes b m hl)
    exact bodyPost_ret (v := .bool true) (by simp [results, Try.results23, go_sem]) rfl ⟨by rw [HM.out]; rfl, hb1.trans (hb2.mono hb1.size)⟩
set_option maxHeartbeats 4000000 in
set_option maxRecDepth 100000 in
theorem refcopy_calls (W0 W : World) (hb : Below W0.heap.size W0 W) (la : Option Addr) (its : List It) (lc : Nat) (hn : its.length ≤ 9223372036854775807) (hI : ItsAt W0 la its) (hF : FewOf its) (t : Ty) (ea : Option Addr) (ec : Nat) (hT : TyAt W0 (cells4of t ea ec) t) :
    Calls Try.prog 17 #[.slice la its.length lc, .agg (cells4of t ea ec).toArray] W fun e w' => e = .returned (.bool (copyS its t)) ∧ Below W.heap.size W w' := by
  have hcall := fun X hX => look_calls W0 la its lc hn hI hF 513 X t ea ec 512 (by omega) (by omega) hX hT
  have hms : copyS its t = ((lookS its 513 t 512).map Prod.snd).getD false := by rw [look_measure]; unfold copyS measureS; cases addS its 513 512 t <;> rfl
  have HM := Lib.hid hms
  obtain ⟨nn, hnl⟩ : ∃ nn, its.length = nn := ⟨_, rfl⟩
  rw [hnl] at hcall ⊢
  clear hms
  go_enter Try.func17, Try.ntmps17
  go_upto_region 1 with fail
  have hb1 : Below W.heap.size W (W.alloc (.cells (cells4of t ea ec).toArray 26)) := (Below.refl _ _).alloc (Nat.le_refl _) _
  have hT1 := heap_alloc_new W (.cells (cells4of t ea ec).toArray 26)
  show Code.wp Try.prog _ _ _ (W.alloc (.cells (cells4of t ea ec).toArray 26))
  obtain ⟨w1, hw1⟩ : ∃ y, W.alloc (.cells (cells4of t ea ec).toArray 26) = y := ⟨_, rfl⟩
  rw [hw1] at hb1 hT1 ⊢
  have e0 : w1.cell? ⟨W.heap.size, 0, none⟩ = some (.int .i64 t.kind) := by rw [cell_of_row _ _ _ _ 26 (0, 0) hT1]; rfl
  have e1 : w1.cell? ⟨W.heap.size, 1, none⟩ = some (.string t.name) := by rw [cell_of_row _ _ _ _ 26 (0, 0) hT1]; rfl
  have e2 : w1.cell? ⟨W.heap.size, 2, none⟩ = some (.int .i64 t.n) := by rw [cell_of_row _ _ _ _ 26 (0, 0) hT1]; rfl
  have e3 : w1.cell? ⟨W.heap.size, 3, none⟩ = some (.slice ea t.el.length ec) := by rw [cell_of_row _ _ _ _ 26 (0, 0) hT1]; rfl
  have hc : Calls Try.prog 30 #[.slice la nn lc, .agg #[.int .i64 t.kind, .string t.name, .int .i64 t.n, .slice ea t.el.length ec], .int .i64 512] w1 _ := hcall w1 (hb.trans (hb1.mono hb.size))
  clear hw1 hcall hT1
  cases hl : lookS its 513 t 512 with
  | none =>
    rw [hl] at HM
    go_wp2_with (go_at_call 30; refine hc.mono ?_; rintro e w2 ⟨hLT, hb2⟩; obtain rfl := hLT.no hl)
    exact bodyPost_ret (v := .bool false) (by simp [results, Try.results17, go_sem]) rfl ⟨by rw [HM.out]; rfl, hb1.trans (hb2.mono hb1.size)⟩
  | some r =>
    obtain ⟨b, m⟩ := r
    rw [hl] at HM
    go_wp2_with (go_at_call 30; refine hc.mono ?_; rintro e w2 ⟨hLT, hb2⟩; obtain rfl := hLT.yes b m hl)
    exact bodyPost_ret (v := .bool m) (by simp [results, Try.results17, go_sem]) rfl ⟨by rw [HM.out]; rfl, hb1.trans (hb2.mono hb1.size)⟩
set_option maxHeartbeats 4000000 in
set_option maxRecDepth 100000 in
theorem small_calls (W0 W : World) (hb : Below W0.heap.size W0 W) (la : Option Addr) (its : List It) (lc : Nat) (hn : its.length ≤ 9223372036854775807) (hI : ItsAt W0 la its) (hF : FewOf its) (t : Ty) (ea : Option Addr) (ec : Nat) (hT : TyAt W0 (cells4of t ea ec) t) (k : Nat) :
    Calls Try.prog 9 #[.slice la its.length lc, .agg (cells4of t ea ec).toArray, .int .i64 (k : Nat)] W fun e w' => e = .returned (.bool (measureS its (arrT k t)).isSome) ∧ Below W.heap.size W w' := by
  obtain ⟨nn, hnl⟩ : ∃ nn, its.length = nn := ⟨_, rfl⟩
  have hcall := fun X hX => known_calls X X (Below.refl _ _) la its lc hn hX hF (arrT k t)
  rw [hnl] at hcall ⊢
  go_enter Try.func9, Try.ntmps9
  go_upto_region 1 with fail
  have hb1 : Below W.heap.size W (W.alloc (.cells (cells4of t ea ec).toArray 26)) := (Below.refl _ _).alloc (Nat.le_refl _) _
  have hT1 := heap_alloc_new W (.cells (cells4of t ea ec).toArray 26)
  show Code.wp Try.prog _ _ _ (W.alloc (.cells (cells4of t ea ec).toArray 26))
  obtain ⟨w1, hw1⟩ : ∃ y, W.alloc (.cells (cells4of t ea ec).toArray 26) = y := ⟨_, rfl⟩
  rw [hw1] at hb1 hT1 ⊢
  have e0 : w1.cell? ⟨W.heap.size, 0, none⟩ = some (.int .i64 t.kind) := by rw [cell_of_row _ _ _ _ 26 (0, 0) hT1]; rfl
  have e1 : w1.cell? ⟨W.heap.size, 1, none⟩ = some (.string t.name) := by rw [cell_of_row _ _ _ _ 26 (0, 0) hT1]; rfl
  have e2 : w1.cell? ⟨W.heap.size, 2, none⟩ = some (.int .i64 t.n) := by rw [cell_of_row _ _ _ _ 26 (0, 0) hT1]; rfl
  have e3 : w1.cell? ⟨W.heap.size, 3, none⟩ = some (.slice ea t.el.length ec) := by rw [cell_of_row _ _ _ _ 26 (0, 0) hT1]; rfl
  have hB0 := hb.trans (hb1.mono hb.size)
  have hb2 : Below w1.heap.size w1 (w1.alloc (.cells (cells4of t ea ec).toArray 26)) := (Below.refl _ _).alloc (Nat.le_refl _) _
  have hAt := one_at (hT.keep hB0) 10 ⟨#[]⟩ (k : Nat)
  have hc : Calls Try.prog 23 #[.slice la nn lc, .agg #[.int .i64 10, .string ⟨#[]⟩, .int .i64 (k : Nat), .slice (some ⟨w1.heap.size, 0, none⟩) 1 1]] (w1.alloc (.cells #[.int .i64 t.kind, .string t.name, .int .i64 t.n, .slice ea t.el.length ec] 26)) _ := hcall _ (its_keep hI (hB0.trans (hb2.mono hB0.size))) _ _ hAt
  have hB2 := hb1.trans (hb2.mono hb1.size)
  clear hw1 hcall hT1 hAt
  go_wp2_with (go_at_call 23; refine hc.mono ?_; rintro e w2 ⟨rfl, hb3⟩)
  exact bodyPost_ret (v := .bool (measureS its (arrT k t)).isSome) (by simp [results, Try.results9, go_sem]) rfl ⟨rfl, hB2.trans (hb3.mono hB2.size)⟩
end Go.Proofs.Ytioediibbgklcaa.W
