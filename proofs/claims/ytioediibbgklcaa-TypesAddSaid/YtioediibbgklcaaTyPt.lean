/- ferruleref05.parts: a type's own parts. -/
import Derived.Test.YtioediibbgklcaaTyFw
namespace Go.Proofs.Ytioediibbgklcaa.W
open Go Go.RowKit Go.Proofs
set_option linter.unusedVariables false
set_option linter.unusedSimpArgs false
/-- Four cells of a type. -/
abbrev cells4of (t : Ty) (a : Option Addr) (c : Nat) : List Value := [.int .i64 t.kind, .string t.name, .int .i64 t.n, .slice a t.el.length c]
/-- A row of one's own, of types that lie in an older world. -/
structure OwnT (W0 : World) (B : Nat) (w : World) (v : Value) (n : Nat) (ts : List Ty) : Prop where
  ex : ∃ xs, w.ownsRow B 26 4 v n xs ∧ ts.length = n ∧ ∀ (i : Nat) t, ts[i]? = some t → ∃ a c, (∀ j, j < 4 → xs[i * 4 + j]? = (cells4of t a c)[j]?) ∧ TyAt W0 (cells4of t a c) t
/-- A row of types, of types that lie in an older world. -/
structure RowT (W0 w : World) (v : Value) (ts : List Ty) : Prop where
  ex : ∃ ra rc, v = .slice ra ts.length rc ∧ ∀ (i : Nat) t, ts[i]? = some t → ∃ b o a c, ra = some ⟨b, o, none⟩ ∧ w.cell? ⟨b, o + i * 4, none⟩ = some (.int .i64 t.kind) ∧ w.cell? ⟨b, o + i * 4 + 1, none⟩ = some (.string t.name) ∧ w.cell? ⟨b, o + i * 4 + 2, none⟩ = some (.int .i64 t.n) ∧ w.cell? ⟨b, o + i * 4 + 3, none⟩ = some (.slice a t.el.length c) ∧ TyAt W0 (cells4of t a c) t
theorem OwnT.nil (W0 : World) (B : Nat) (w : World) : OwnT W0 B w (.slice none 0 0) 0 [] := ⟨[], World.ownsRow_nil _ _ _ _, rfl, fun i t h => by simp at h⟩
theorem OwnT.keep {W0 : World} {B : Nat} {w w' : World} {v : Value} {n : Nat} {ts : List Ty} (h : OwnT W0 B w v n ts) (hb : Below w.heap.size w w') : OwnT W0 B w' v n ts := by
  obtain ⟨xs, h1, h2, h3⟩ := h.ex
  exact ⟨xs, own_keep h1 (fun g cur p _ hg => hb.block g (Array.getElem?_eq_some_iff.1 hg).1), h2, h3⟩
theorem OwnT.row {W0 : World} {B : Nat} {w : World} {v : Value} {n : Nat} {ts : List Ty} (h : OwnT W0 B w v n ts) : RowT W0 w v ts := by
  obtain ⟨xs, h1, h2, h3⟩ := h.ex
  rcases own_form2 h1 with ⟨rfl, rfl⟩ | ⟨g, cap, rfl, _⟩
  · have : ts = [] := List.eq_nil_of_length_eq_zero h2
    subst this
    exact ⟨none, 0, rfl, fun i t h => by simp at h⟩
  · refine ⟨some ⟨g, 0, none⟩, cap, by rw [h2], fun i t hi => ?_⟩
    obtain ⟨a, c, h4, h5⟩ := h3 i t hi
    have hc : ∀ j u, j < 4 → (cells4of t a c)[j]? = some u → w.cell? ⟨g, 0 + (i * 4 + j), none⟩ = some u := fun j u hj hu => by
      have := h1.cells (g := g) rfl (i * 4 + j) u ((h4 j hj).trans hu)
      rwa [Addr.add_lit] at this
    exact ⟨g, 0, a, c, rfl, by simpa using hc 0 _ (by omega) rfl, by simpa using hc 1 _ (by omega) rfl, by simpa using hc 2 _ (by omega) rfl, by simpa using hc 3 _ (by omega) rfl, h5⟩
theorem OwnT.len {W0 : World} {B : Nat} {w : World} {v : Value} {n : Nat} {ts : List Ty} (h : OwnT W0 B w v n ts) : ts.length = n := by
  obtain ⟨_, _, h2, _⟩ := h.ex
  exact h2
/-- More of them. -/
theorem own_more {W0 : World} {B : Nat} {w w' : World} {v v' : Value} {n m : Nat} {ts us : List Ty} {xs news : List Value} (h1 : w.ownsRow B 26 4 v n xs) (h2 : ts.length = n) (h3 : ∀ (i : Nat) t, ts[i]? = some t → ∃ a c, (∀ j, j < 4 → xs[i * 4 + j]? = (cells4of t a c)[j]?) ∧ TyAt W0 (cells4of t a c) t)
    (hu : us.length = m) (hnews : ∀ (i : Nat) t, us[i]? = some t → ∃ a c, (∀ j, j < 4 → news[i * 4 + j]? = (cells4of t a c)[j]?) ∧ TyAt W0 (cells4of t a c) t) (hown : w'.ownsRow B 26 4 v' (n + m) (xs ++ news)) : OwnT W0 B w' v' (n + m) (ts ++ us) := by
  refine ⟨xs ++ news, hown, by rw [List.length_append, h2, hu], fun i t hi => ?_⟩
  have hx := h1.1
  by_cases c : i < n
  · rw [List.getElem?_append_left (by omega)] at hi
    obtain ⟨a, c, h4, h5⟩ := h3 i t hi
    exact ⟨a, c, fun j hj => by rw [List.getElem?_append_left (by omega)]; exact h4 j hj, h5⟩
  · rw [List.getElem?_append_right (by omega)] at hi
    obtain ⟨a, c, h4, h5⟩ := hnews (i - ts.length) t hi
    exact ⟨a, c, fun j hj => by rw [List.getElem?_append_right (by omega), show i * 4 + j - xs.length = (i - ts.length) * 4 + j by omega]; exact h4 j hj, h5⟩
theorem cells4_one (t : Ty) (a : Option Addr) (c : Nat) : ∀ u ∈ cells4of t a c, u.oneCell' = true := by
  intro u hu
  simp only [List.mem_cons, List.not_mem_nil, or_false] at hu
  rcases hu with rfl | rfl | rfl | rfl <;> rfl
theorem one_news {W0 : World} {t : Ty} {a : Option Addr} {c : Nat} (h : TyAt W0 (cells4of t a c) t) : ∀ (i : Nat) u, [t][i]? = some u → ∃ a' c', (∀ j, j < 4 → (cells4of t a c)[i * 4 + j]? = (cells4of u a' c')[j]?) ∧ TyAt W0 (cells4of u a' c') u := by
  intro i u hi
  match i, hi with
  | 0, hi =>
    simp at hi; subst hi
    exact ⟨a, c, fun j _ => by simp, h⟩
  | i + 1, hi => simp at hi
/-- The cells of types in a row. -/
theorem many_news {W0 w : World} (hb : Below W0.heap.size W0 w) {ad : Addr} {ts : List Ty} (hT : TysAt W0 (some ad) ts) : ∃ news : List Value, news.length = ts.length * 4 ∧ (∀ j u, news[j]? = some u → w.cell? (ad.add j) = some u) ∧ (∀ u ∈ news, u.oneCell' = true) ∧ ∀ (i : Nat) t, ts[i]? = some t → ∃ a c, (∀ j, j < 4 → news[i * 4 + j]? = (cells4of t a c)[j]?) ∧ TyAt W0 (cells4of t a c) t := by
  obtain ⟨news, h1, h2, h3⟩ := row_of_types (hT.keep hb)
  refine ⟨news, h1, h2, h3, fun i t hi => ?_⟩
  have hlt : i < ts.length := (List.getElem?_eq_some_iff.1 hi).1
  obtain ⟨b, o, c0, c1, c2, c3, ha, x0, x1, x2, x3, ht⟩ := hT i t hi
  injection ha with ha
  subst ha
  obtain ⟨a, cap, rfl, rfl, rfl, rfl, _⟩ := ht.inv
  have hn : ∀ j, j < 4 → news[i * 4 + j]? = w.cell? ⟨b, o + i * 4 + j, none⟩ := fun j hj => by
    have hl : i * 4 + j < news.length := by omega
    have := h2 (i * 4 + j) _ (List.getElem?_eq_getElem hl)
    rw [Addr.add_lit, ← Nat.add_assoc] at this
    rw [this, List.getElem?_eq_getElem hl]
  refine ⟨a, cap, fun j hj => ?_, ht⟩
  rw [hn j hj]
  match j, hj with
  | 0, _ => exact keep_cell hb x0
  | 1, _ => exact keep_cell hb x1
  | 2, _ => exact keep_cell hb x2
  | 3, _ => exact keep_cell hb x3
/-- What parts answers. -/
structure PartsT (W0 w : World) (o : Option (List Ty)) (e : Ending) : Prop where
  yes : ∀ ts, o = some ts → ∃ v, e = .returned (.tuple #[v, .bool true]) ∧ RowT W0 w v ts
  no : o = none → ∃ v, e = .returned (.tuple #[v, .bool false])
theorem partsT_yes {W0 w : World} {o : Option (List Ty)} {e : Ending} {ts : List Ty} (h : o = some ts) (h' : ∃ v, e = .returned (.tuple #[v, .bool true]) ∧ RowT W0 w v ts) : PartsT W0 w o e := ⟨fun us hu => by rw [h] at hu; injection hu with hu; subst hu; exact h', fun hu => by rw [h] at hu; cases hu⟩
theorem partsT_no {W0 w : World} {o : Option (List Ty)} {e : Ending} (h : o = none) (h' : ∃ v, e = .returned (.tuple #[v, .bool false])) : PartsT W0 w o e := ⟨fun us hu => (by rw [h] at hu; cases hu), fun _ => h'⟩
set_option maxHeartbeats 4000000 in
set_option maxRecDepth 100000 in
/-- Types that are no names. -/
theorem parts_plain (W0 W : World) (hb : Below W0.heap.size W0 W) (la : Option Addr) (its : List It) (lc : Nat) (t : Ty) (ea : Option Addr) (ec : Nat) (hT : TyAt W0 (cells4of t ea ec) t) (h9 : ¬ t.kind = 9) :
    Calls Try.prog 36 #[.slice la its.length lc, .agg (cells4of t ea ec).toArray] W fun e w' => PartsT W0 w' (partsS its t) e ∧ Below W.heap.size W w' := by
  have hps : partsS its t = if 1 ≤ t.kind ∧ t.kind ≤ 8 then some [] else if t.kind < 10 ∨ 13 < t.kind then none
    else match t.el with
      | [] => none
      | e :: _ => if t.kind = 10 then some (List.replicate (min t.n.toNat 512) e) else some [] := by
    unfold partsS; rw [if_neg h9]; rfl
  have HPS := Lib.hid hps
  clear hps
  obtain ⟨nn, hnl⟩ : ∃ nn, its.length = nn := ⟨_, rfl⟩
  rw [hnl]
  go_enter Try.func36, Try.ntmps36
  go_upto_region 1 with fail
  have hb1 : Below W.heap.size W (W.alloc (.cells (cells4of t ea ec).toArray 26)) := (Below.refl _ _).alloc (Nat.le_refl _) _
  have hT1 := heap_alloc_new W (.cells (cells4of t ea ec).toArray 26)
  show Code.wp Try.prog _ _ _ (W.alloc (.cells (cells4of t ea ec).toArray 26))
  obtain ⟨w1, hw1⟩ : ∃ y, W.alloc (.cells (cells4of t ea ec).toArray 26) = y := ⟨_, rfl⟩
  rw [hw1] at hb1 hT1 ⊢
  have e0 : w1.cell? ⟨W.heap.size, 0, none⟩ = some (.int .i64 t.kind) := by rw [cell_of_row _ _ _ _ 26 (0, 0) hT1]; rfl
  have e2 : w1.cell? ⟨W.heap.size, 2, none⟩ = some (.int .i64 t.n) := by rw [cell_of_row _ _ _ _ 26 (0, 0) hT1]; rfl
  have e3 : w1.cell? ⟨W.heap.size, 3, none⟩ = some (.slice ea t.el.length ec) := by rw [cell_of_row _ _ _ _ 26 (0, 0) hT1]; rfl
  obtain ⟨_, _, _, _, _, e4, hl1, hel⟩ := hT.inv
  injection e4 with e4 _ e5
  subst e4 e5
  obtain ⟨el, hele⟩ : ∃ el, t.el.length = el := ⟨_, rfl⟩
  rw [hele] at e3 hl1
  clear hT hw1
  by_cases h1 : 1 ≤ t.kind
  · by_cases h8 : t.kind ≤ 8
    · have h := HPS.out
      rw [if_pos ⟨h1, h8⟩] at h
      have H := Lib.hid h
      clear h
      go_wp2
      exact bodyPost_ret (v := .tuple #[.slice none 0 0, .bool true]) (by simp [results, Try.results36, go_sem]) rfl ⟨partsT_yes H.out ⟨_, rfl, (OwnT.nil W0 0 _).row⟩, hb1⟩
    · by_cases h13 : 13 < t.kind
      · have h := HPS.out
        rw [if_neg (by omega), if_pos (by omega)] at h
        have H := Lib.hid h
        clear h
        go_wp2
        exact bodyPost_ret (v := .tuple #[.slice none 0 0, .bool false]) (by simp [results, Try.results36, go_sem]) rfl ⟨partsT_no H.out ⟨_, rfl⟩, hb1⟩
      · have h10 : ¬ t.kind < 10 := by omega
        cases hte : t.el with
        | nil =>
          have h := HPS.out
          rw [if_neg (by omega), if_neg (by omega), hte] at h
          have H := Lib.hid h
          rw [hte] at hele
          obtain rfl : el = 0 := hele.symm
          clear h
          go_wp2
          exact bodyPost_ret (v := .tuple #[.slice none 0 0, .bool false]) (by simp [results, Try.results36, go_sem]) rfl ⟨partsT_no H.out ⟨_, rfl⟩, hb1⟩
        | cons u r =>
          have h := HPS.out
          rw [if_neg (by omega), if_neg (by omega), hte] at h
          simp only at h
          have H := Lib.hid h
          rw [hte] at hele
          have hel0 : ¬ (el = 0) := by simp at hele; omega
          clear h
          have he0 := hel 0 u (by rw [hte]; rfl)
          obtain ⟨b, o, c0, c1, c2, c3, rfl, x0, x1, x2, x3, hu⟩ := he0
          obtain ⟨ua, uc, rfl, rfl, rfl, rfl, hul, _⟩ := hu.inv
          obtain ⟨i0, hi, hz0, hz1, hz2⟩ := info_parts info26
          clear hel hele
          by_cases ha : t.kind = 10
          · go_wp2
            go_loopw [10, 11] (fun v i wr => ∃ k : Nat, i = .int .i64 k ∧ k ≤ min t.n.toNat 512 ∧ Below w1.heap.size w1 wr ∧ OwnT W0 w1.heap.size wr v k (List.replicate k u)) (fun _ i _ => 512 - (intOf i).toNat)
            case atStart => exact ⟨0, rfl, Nat.zero_le _, Below.refl _ _, OwnT.nil _ _ _⟩
            case round =>
              obtain ⟨k, rfl, hk, hB, hO⟩ := hrel
              have hB1 := hb1.trans (hB.mono hb1.size)
              have hB0 := hb.trans (hB1.mono hb.size)
              have f0 := (hB.cell (p := ⟨W.heap.size, 0, none⟩) (cell_lt e0)).trans e0
              have f2 := (hB.cell (p := ⟨W.heap.size, 2, none⟩) (cell_lt e2)).trans e2
              have f3 := (hB.cell (p := ⟨W.heap.size, 3, none⟩) (cell_lt e3)).trans e3
              by_cases hkn : (k : Int) < t.n
              · by_cases hk5 : (k : Int) < 512
                · have y0 := keep_cell hB0 x0
                  have y1 := keep_cell hB0 x1
                  have y2 := keep_cell hB0 x2
                  have y3 := keep_cell hB0 x3
                  rw [Nat.zero_mul, Nat.add_zero] at y0 y1 y2 y3
                  have hb7 : Below wr.heap.size wr (wr.alloc (.cells (cells4of u ua uc).toArray 26)) := (Below.refl _ _).alloc (Nat.le_refl _) _
                  have hO7 := hO.keep hb7
                  obtain ⟨xs, ho1, ho2, ho3⟩ := hO7.ex
                  have hel0' : ¬ ((el : Int) = 0) := by omega
                  go_wp2_with (refine wpList_append_own2 rfl (.tmp 118) (.tmp 123) 24 rfl w1.heap.size 26 i0 _ 4 56 Try.underlying24 hi hz0 hz1 hz2 rfl (by decide) _ k xs rfl ho1 ⟨wr.heap.size, 0, none⟩ 1 1 (cells4of u ua uc) rfl rfl (lit_cells wr 26 (cells4of u ua uc)) (cells4_one u ua uc) (by unfold maxLen; omega) (by omega) (by have := hB.size; simp; omega) ?_; intro v8 w8 hown hgr hG)
                  have hO8 := own_more ho1 ho2 ho3 (us := [u]) rfl (one_news hu) hown
                  have hB8 := (hB.trans (hb7.mono hB.size)).grown hgr (by have := hB.size; simp; omega) (fun g hg => (ho1.lt g hg).1)
                  go_roundw
                  case rel => exact ⟨k + 1, by go_num, by omega, hB8, by rw [List.replicate_succ']; exact hO8⟩
                  case measure => simp [intOf]; omega
                · have hr := hO.row
                  have hk' : k = min t.n.toNat 512 := by omega
                  go_wp2
                  exact bodyPost_ret (v := .tuple #[u10, .bool true]) (by simp [results, Try.results36, go_sem]) rfl ⟨partsT_yes (by rw [H.out, if_pos ha]) ⟨_, rfl, by rw [← hk']; exact hr⟩, hB1⟩
              · have hr := hO.row
                have hk' : k = min t.n.toNat 512 := by omega
                go_wp2
                exact bodyPost_ret (v := .tuple #[u10, .bool true]) (by simp [results, Try.results36, go_sem]) rfl ⟨partsT_yes (by rw [H.out, if_pos ha]) ⟨_, rfl, by rw [← hk']; exact hr⟩, hB1⟩
          · go_wp2
            go_loopw [10, 11] (fun v i wr => v = .slice none 0 0 ∧ i = .int .i64 0 ∧ wr = w1) (fun _ i _ => 0)
            case atStart => exact ⟨rfl, rfl, rfl⟩
            case round =>
              obtain ⟨rfl, rfl, rfl⟩ := hrel
              have hr := (OwnT.nil W0 0 wr).row
              by_cases hkn : (0 : Int) < t.n
              · go_wp2
                exact bodyPost_ret (v := .tuple #[.slice none 0 0, .bool true]) (by simp [results, Try.results36, go_sem]) rfl ⟨partsT_yes (by rw [H.out, if_neg ha]) ⟨_, rfl, hr⟩, hb1⟩
              · go_wp2
                exact bodyPost_ret (v := .tuple #[.slice none 0 0, .bool true]) (by simp [results, Try.results36, go_sem]) rfl ⟨partsT_yes (by rw [H.out, if_neg ha]) ⟨_, rfl, hr⟩, hb1⟩
  · have h := HPS.out
    rw [if_neg (by omega), if_pos (by omega)] at h
    have H := Lib.hid h
    have h10 : t.kind < 10 := by omega
    clear h
    go_wp2
    exact bodyPost_ret (v := .tuple #[.slice none 0 0, .bool false]) (by simp [results, Try.results36, go_sem]) rfl ⟨partsT_no H.out ⟨_, rfl⟩, hb1⟩
end Go.Proofs.Ytioediibbgklcaa.W
