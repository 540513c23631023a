/- slices.Clone of a row of types; an append to a row of one's own (step_append_own2 as in BorrowOverlaps). -/
import Derived.Test.YtioediibbgklcaaTyM
import Derived.Deep.RegionLawGrows
import Derived.Laws.AppendOwn
import Derived.Laws.OwnMore
namespace Go.Proofs.Ytioediibbgklcaa.W
open Go Go.RowKit Go.Proofs
set_option linter.unusedVariables false
set_option linter.unusedSimpArgs false
/-- Where a row lies that grew out of another one. -/
def GrewFrom (w : World) (v v' : Value) (n m : Nat) : Prop := (∀ g, v'.ownBlock = some g → v.ownBlock = some g ∨ w.heap.size ≤ g) ∧ (v ≠ .slice none 0 0 ∨ 0 < m → ∃ g cap, v' = .slice (some ⟨g, 0, none⟩) (n + m) cap)
theorem run_append_own2 {P : Program} (w : World) (base : Nat) (t ty e : TypeId) (i : TypeInfo) (z : Value) (size bytes : Nat) (ht : P.underlying t = some (.slice e)) (hi : P.info? e = some i) (hz : i.zero = some z)
    (hsize : i.size = size) (hby : i.bytes = bytes) (hzs : z.cells.size = size) (hsz : 0 < size)
    (v : Value) (n : Nat) (xs : List Value) (hown : w.ownsRow base e size v n xs)
    (a : Addr) (m c : Nat) (news : List Value) (hl : news.length = m * size) (hnews : ∀ j u, news[j]? = some u → w.cell? (a.add j) = some u) (h1 : ∀ u ∈ news, u.oneCell' = true)
    (h63 : n + m ≤ maxLen) (hbytes : (n + m) * bytes ≤ 140737488355328) (hbase : base ≤ w.heap.size) :
    ∃ v' w', (Builtin.append_ #[t, t] ty #[v, .slice (some a) m c]).run P w = .ok v' w' ∧ w'.ownsRow base e size v' (n + m) (xs ++ news) ∧ w.grownBy w' v.ownBlock ∧ GrewFrom w v v' n m := by
  obtain ⟨v', w', hr, r1, r2, r3⟩ := run_append_own (P := P) w base t ty e i z size bytes ht hi hz hsize hby hzs hsz v n xs hown a m c news hl hnews h1 h63 hbytes hbase
  refine ⟨v', w', hr, r1, r2, ?_, ?_⟩
  · intro g hg
    rcases hown.2 with ⟨rfl, rfl⟩ | ⟨g0, cap, cur, rfl, hbg, hgg, hnc, hcm, hcs, htake⟩
    · have hx : xs = [] := List.eq_nil_of_length_eq_zero (by simpa using hown.1)
      subst hx
      obtain ⟨v2, w2, hr2, q1, q2, q3⟩ := run_append_own (P := P) w w.heap.size t ty e i z size bytes ht hi hz hsize hby hzs hsz (.slice none 0 0) 0 [] (World.ownsRow_nil _ _ _ _) a m c news hl hnews h1 h63 hbytes (Nat.le_refl _)
      rw [hr] at hr2
      injection hr2 with e1 e2
      subst e1
      exact .inr ((q1.lt g hg).1)
    · by_cases hroom : n + m ≤ cap
      · obtain ⟨w2, hr2, q1, q2⟩ := run_append_fits (P := P) w base t ty e i size ht hi hsize g0 n cap xs hown a m c news hl hnews h1 hroom
        rw [hr] at hr2
        injection hr2 with e1 e2
        subst e1
        exact .inl hg
      · have holds : ∀ j u, xs[j]? = some u → w.cell? ((⟨g0, 0, none⟩ : Addr).add j) = some u := hown.cells (g := g0) rfl
        subst hsize
        subst hby
        have hsmall : n + m ≤ 9223372036854775807 := by simp only [maxLen] at h63; omega
        have hr2 := run_append_grow (P := P) w t ty e i z ht hi hz ⟨g0, 0, none⟩ n cap xs hown.1 holds a m c news hl hnews (by omega) (by omega) (growslice_fits (by omega) hbytes)
        rw [hr] at hr2
        injection hr2 with e1 e2
        subst e1
        simp [Value.ownBlock] at hg
        exact .inr (by omega)
  · intro hne
    rcases r1.2 with ⟨rfl, hz0⟩ | ⟨g, cap, cur, h, _⟩
    · exfalso
      obtain ⟨rfl, rfl⟩ := r3.1 rfl
      simp at hne
    · exact ⟨g, cap, h⟩
theorem step_append_own2 {P : Program} {ops : Array Oper} {o : Oper} {a : Act} {w : World} {K : Act → World → Prop} {Q : Exit → Act → World → Prop} {E : Prop}
    (hg : o.guard = none) (s x : Operand) (t : TypeId) (hop : o.op = Op.call { callee := Callee.builtin Builtin.append, args := #[s, x], argTypes := #[t, t] })
    (base : Nat) (e : TypeId) (i : TypeInfo) (z : Value) (size bytes : Nat) (h1 : P.underlying t = some (.slice e)) (h2 : P.info? e = some i) (h3 : i.zero = some z) (h4 : i.size = size) (h5 : i.bytes = bytes) (h6 : z.cells.size = size) (h7 : 0 < size)
    (v : Value) (n : Nat) (xs : List Value) (hs : a.eval s = v) (hown : w.ownsRow base e size v n xs)
    (ad : Addr) (m c : Nat) (news : List Value) (hx : a.eval x = .slice (some ad) m c) (hn : news.length = m * size) (hc : ∀ j u, news[j]? = some u → w.cell? (ad.add j) = some u) (h1c : ∀ u ∈ news, u.oneCell' = true)
    (b1 : n + m ≤ maxLen) (b2 : (n + m) * bytes ≤ 140737488355328) (hb : base ≤ w.heap.size)
    (hK : ∀ v' w', w'.ownsRow base e size v' (n + m) (xs ++ news) → w.grownBy w' v.ownBlock → GrewFrom w v v' n m → K (a.put o.dst v') w') :
    if Region.wanted o (yielded ops a.tmps) = true then Oper.wp P o a w K Q else E := by
  have hw : Region.wanted o (yielded ops a.tmps) = true := by simp [Region.wanted, hg]
  rw [if_pos hw]
  obtain ⟨v', w', hrun, r1, r2, r3⟩ := run_append_own2 (P := P) w base t o.type e i z size bytes h1 h2 h3 h4 h5 h6 h7 v n xs hown ad m c news hn hc h1c b1 b2 hb
  unfold Oper.wp
  simp [execOp, hop, resolve, invoke, builtin, hs, hx, hrun, Result.andThen]
  exact hK v' w' r1 r2 r3
theorem wpList_append_own2 {P : Program} {ops : Array Oper} {rest : List Oper} {o : Oper} {a : Act} {w : World} {Q : Exit → Act → World → Prop} (hgd : o.guard = none) (s x : Operand) (t : TypeId)
    (ho : o.op = .call { callee := .builtin .append, args := #[s, x], argTypes := #[t, t] })
    (base : Nat) (e : TypeId) (i : TypeInfo) (z : Value) (size bytes : Nat) (ht : P.underlying t = some (.slice e)) (hi : P.info? e = some i) (hz : i.zero = some z)
    (hsize : i.size = size) (hby : i.bytes = bytes) (hzs : z.cells.size = size) (hsz : 0 < size)
    (v : Value) (n : Nat) (xs : List Value) (hs : a.eval s = v) (hown : w.ownsRow base e size v n xs)
    (ad : Addr) (m c : Nat) (news : List Value) (hx : a.eval x = .slice (some ad) m c) (hl : news.length = m * size) (hnews : ∀ j u, news[j]? = some u → w.cell? (ad.add j) = some u) (h1 : ∀ u ∈ news, u.oneCell' = true)
    (h63 : n + m ≤ maxLen) (hbytes : (n + m) * bytes ≤ 140737488355328) (hbase : base ≤ w.heap.size)
    (h : ∀ v' w', w'.ownsRow base e size v' (n + m) (xs ++ news) → w.grownBy w' v.ownBlock → GrewFrom w v v' n m → wpList P ops Q rest (a.put o.dst v') w') : wpList P ops Q (o :: rest) a w :=
  wpList_plain hgd fun _ hK => by
    obtain ⟨v', w', hr, h2, h3, h4⟩ := run_append_own2 (P := P) w base t o.type e i z size bytes ht hi hz hsize hby hzs hsz v n xs hown ad m c news hl hnews h1 h63 hbytes hbase
    unfold Oper.wp execOp
    simp only [ho, resolve, invoke, builtin, Sem.run_bind, Sem.run_pure, Result.andThen_ok, List.map_toArray, List.map_cons, List.map_nil, hs, hx, hr]
    exact hK _ _ (h v' w' h2 h3 h4)
theorem own_form2 {W : World} {B e sz n : Nat} {v : Value} {xs : List Value} (h : W.ownsRow B e sz v n xs) : (v = .slice none 0 0 ∧ n = 0) ∨ ∃ g cap, v = .slice (some ⟨g, 0, none⟩) n cap ∧ B ≤ g ∧ n ≤ cap ∧ g < W.heap.size := by
  rcases h.2 with h | ⟨g, cap, cur, h, h2, h3, h4, _⟩
  · exact .inl h
  · exact .inr ⟨g, cap, h, h2, h4, (Array.getElem?_eq_some_iff.1 h3).1⟩
theorem info_parts {P : Program} {e : TypeId} {z : Value} {s b : Nat} (h : (P.info? e).map (fun i => (i.zero, i.size, i.bytes)) = some (some z, s, b)) : ∃ i, P.info? e = some i ∧ i.zero = some z ∧ i.size = s ∧ i.bytes = b := by
  cases hi : P.info? e with
  | none => rw [hi] at h; simp at h
  | some i =>
    rw [hi] at h
    simp at h
    exact ⟨i, rfl, h.1, h.2.1, h.2.2⟩
theorem own_empty (W : World) (e s : Nat) : (W.alloc (.cells #[] e)).ownsRow W.heap.size e s (.slice (some ⟨W.heap.size, 0, none⟩) 0 0) 0 [] :=
  World.ownsRow_made W #[] 0 (Nat.le_refl _) (by unfold maxLen; omega) (by simp)
theorem info26 : (Try.prog.info? 26).map (fun i => (i.zero, i.size, i.bytes)) = some (some (.agg #[.int .i64 0, .string ⟨#[]⟩, .int .i64 0, .slice none 0 0]), 4, 56) := by kernel_rfl
/-- The cells of a row of types. -/
theorem row_of_types {W : World} {ad : Addr} {ts : List Ty} (hT : TysAt W (some ad) ts) : ∃ news : List Value, news.length = ts.length * 4 ∧ (∀ j u, news[j]? = some u → W.cell? (ad.add j) = some u) ∧ ∀ u ∈ news, u.oneCell' = true := by
  have key : ∀ j, j < ts.length * 4 → ∃ v, W.cell? (ad.add j) = some v ∧ v.oneCell' = true := by
    intro j hj
    have hq : j / 4 < ts.length := by omega
    obtain ⟨b, o, c0, c1, c2, c3, ha, x0, x1, x2, x3, ht⟩ := hT (j / 4) _ (List.getElem?_eq_getElem hq)
    injection ha with ha
    subst ha
    obtain ⟨a, cap, rfl, rfl, rfl, rfl, _⟩ := ht.inv
    rw [Addr.add_lit]
    have hm : j % 4 = 0 ∨ j % 4 = 1 ∨ j % 4 = 2 ∨ j % 4 = 3 := by omega
    rcases hm with h | h | h | h
    · exact ⟨_, by rw [show o + j = o + j / 4 * 4 by omega]; exact x0, rfl⟩
    · exact ⟨_, by rw [show o + j = o + j / 4 * 4 + 1 by omega]; exact x1, rfl⟩
    · exact ⟨_, by rw [show o + j = o + j / 4 * 4 + 2 by omega]; exact x2, rfl⟩
    · exact ⟨_, by rw [show o + j = o + j / 4 * 4 + 3 by omega]; exact x3, rfl⟩
  refine ⟨(List.range (ts.length * 4)).map (fun j => (W.cell? (ad.add j)).getD (.bool false)), by simp, fun j u h => ?_, fun u h => ?_⟩
  · have hj : j < ts.length * 4 := by have := (List.getElem?_eq_some_iff.1 h).1; simpa using this
    obtain ⟨v, hv, _⟩ := key j hj
    simp [hj, hv] at h
    rw [hv, h]
  · simp only [List.mem_map, List.mem_range] at h
    obtain ⟨j, hj, rfl⟩ := h
    obtain ⟨v, hv, h1⟩ := key j hj
    rw [hv]; exact h1
set_option maxHeartbeats 4000000 in
set_option maxRecDepth 100000 in
theorem clone_calls (W : World) (ta : Option Addr) (ts : List Ty) (tc : Nat) (hn : ts.length ≤ 1000) (hT : TysAt W ta ts) :
    Calls Try.prog 28 #[.slice ta ts.length tc] W fun e w' => (∃ a c, e = .returned (.slice a ts.length c)) ∧ Below W.heap.size W w' := by
  cases ta with
  | none =>
    have h0 : ts.length = 0 := by
      cases ts with
      | nil => rfl
      | cons t r => obtain ⟨b, o, _, _, _, _, h, _⟩ := hT 0 t rfl; cases h
    rw [h0]
    have he : ∀ w : World, (binOp .eql 24 (.slice none 0 tc) (.slice none 0 0)).run Try.prog w = .ok (.bool true) w := fun _ => rfl
    go_enter Try.func28, Try.ntmps28
    go_wp2
    exact bodyPost_ret (v := .slice none 0 0) (by simp [results, Try.results28, go_sem]) rfl ⟨⟨_, _, rfl⟩, Below.refl _ _⟩
  | some ad =>
    obtain ⟨news, h1, h2, h3⟩ := row_of_types hT
    obtain ⟨n, hnl⟩ : ∃ n, ts.length = n := ⟨_, rfl⟩
    rw [hnl] at hn h1 ⊢
    obtain ⟨i0, hi, hz0, hz1, hz2⟩ := info_parts info26
    clear hT hnl
    have hb1 : Below W.heap.size W (W.alloc (.cells #[] 26)) := (Below.refl _ _).alloc (Nat.le_refl _) _
    have ho := own_empty W 26 4
    have h2' : ∀ j u, news[j]? = some u → (W.alloc (.cells #[] 26)).cell? (ad.add j) = some u := by
      obtain ⟨b, o, p⟩ := ad
      intro j u h
      have h4 := h2 j u h
      have hbl : ((⟨b, o, p⟩ : Addr).add j).block = b := by unfold Addr.add; split <;> rfl
      refine (hb1.cell ?_).trans h4
      rw [hbl]
      by_cases q : b < W.heap.size
      · exact q
      · exfalso
        have e : W.heap[b]? = none := Array.getElem?_eq_none (by omega)
        simp [World.cell?, hbl, e] at h4
    have he : ∀ w : World, (binOp .eql 24 (.slice (some ad) n tc) (.slice none 0 0)).run Try.prog w = .ok (.bool false) w := fun _ => rfl
    go_enter Try.func28, Try.ntmps28
    go_wp2_with (
      refine wpList_append_own2 rfl (.tmp 5) (.tmp 6) 24 rfl W.heap.size 26 i0 _ 4 56 Try.underlying24 hi hz0 hz1 hz2 rfl (by decide) _ 0 [] rfl ho ad n tc news rfl h1 h2' h3 (by unfold maxLen; omega) (by omega) (by simp) ?_
      intro v' w4 hown hgr hG)
    have hb4 : Below W.heap.size W w4 := hb1.grown hgr hb1.size (fun g hg => (ho.lt g hg).1)
    rcases own_form2 hown with ⟨rfl, h0⟩ | ⟨g, cap, rfl, _⟩
    · rw [Nat.zero_add] at h0
      subst h0
      exact bodyPost_ret (v := .slice none 0 0) (by simp [results, Try.results28, go_sem]) rfl ⟨⟨_, _, rfl⟩, hb4⟩
    · rw [Nat.zero_add]
      exact bodyPost_ret (v := .slice (some ⟨g, 0, none⟩) n cap) (by simp [results, Try.results28, go_sem]) rfl ⟨⟨_, _, rfl⟩, hb4⟩
end Go.Proofs.Ytioediibbgklcaa.W
