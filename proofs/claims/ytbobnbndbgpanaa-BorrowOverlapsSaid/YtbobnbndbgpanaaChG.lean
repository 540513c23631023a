/- borrow.Overlap: what it answers, by what both runs over the chains told. -/
import Derived.Test.YtbobnbndbgpanaaChD
namespace Go.Proofs.Ytbobnbndbgpanaa.W
open Go Go.RowKit Go.Proofs
set_option linter.unusedVariables false
set_option linter.unusedSimpArgs false
/-- No pair of steps at the same place clashes. -/
def agree (c : Int × Int → Int × Int → Bool) : List (Int × Int) → List (Int × Int) → Bool
  | a :: l, b :: m => !(c a b) && agree c l m
  | _, _ => true
theorem agree_yes {c : Int × Int → Int × Int → Bool} : ∀ {l m : List (Int × Int)}, (∀ (i : Nat) (a b : Int × Int), l[i]? = some a → m[i]? = some b → c a b = false) → agree c l m = true
  | [], [], h => rfl
  | [], _ :: _, h => rfl
  | _ :: _, [], h => rfl
  | a :: l, b :: m, h => by
    simp only [agree, h 0 a b rfl rfl, Bool.not_false, Bool.true_and]
    exact agree_yes fun i a b h1 h2 => h (i + 1) a b (by simpa using h1) (by simpa using h2)
theorem agree_no {c : Int × Int → Int × Int → Bool} : ∀ {l m : List (Int × Int)} {i : Nat} {a b : Int × Int}, l[i]? = some a → m[i]? = some b → c a b = true → agree c l m = false
  | [], _, i, a, b, h1, h2, h => by simp at h1
  | _ :: _, [], i, a, b, h1, h2, h => by simp at h2
  | x :: l, y :: m, 0, a, b, h1, h2, h => by
    simp at h1 h2; subst h1 h2
    simp [agree, h]
  | x :: l, y :: m, i + 1, a, b, h1, h2, h => by
    have := agree_no (c := c) (l := l) (m := m) (by simpa using h1) (by simpa using h2) h
    simp [agree, this]
def cC (a b : Int × Int) : Bool := !(a.1 == b.1 && a.2 == b.2) && (a.1 == b.1)
theorem own_below {W W' : World} {B e sz n : Nat} {v : Value} {xs : List Value} (h : W.ownsRow B e sz v n xs) (hb : Below W.heap.size W W') : W'.ownsRow B e sz v n xs :=
  own_keep h fun g hg => hb.block g (own_lt h g hg)
theorem two_boxes (W : World) (ca cb : List Value) : ∃ w2, (W.alloc (.cells ca.toArray 27)).alloc (.cells cb.toArray 27) = w2 ∧ InBox W W.heap.size ca w2 ∧ InBox W (W.heap.size + 1) cb w2 := by
  have h1 : InBox W W.heap.size ca (W.alloc (.cells ca.toArray 27)) := ⟨heap_alloc_new W _, (Below.refl _ _).alloc (Nat.le_refl _) _, Nat.le_refl _⟩
  refine ⟨_, rfl, h1.alloc _, ⟨?_, h1.bel.alloc h1.bel.size _, by omega⟩⟩
  have := heap_alloc_new (W.alloc (.cells ca.toArray 27)) (.cells cb.toArray 27)
  simpa using this
theorem below_drew {B : Nat} {W w : World} (h : Below B W w) : Below B W w.drew := ⟨h.os, h.tape, h.output, h.size, h.block⟩
/-- What an Overlap answers, by what both runs over the chains told. -/
structure Ov (W : World) (la lb : List Nd) (f : Nd → Int × Int) (c : Int × Int → Int × Int → Bool) (e : Ending) (w' : World) : Prop where
  out : ∃ r s ok is L M, Told la f r ok L ∧ Told lb f s is M ∧ e = .returned (.bool (ok && is && (r == s) && agree c L M)) ∧ Below W.heap.size W w'
theorem own_len {W : World} {B e sz n : Nat} {v : Value} {xs : List Value} (h : W.ownsRow B e sz v n xs) : ∃ o c, v = .slice o n c := by
  rcases own_form2 h with ⟨rfl, rfl⟩ | ⟨g, cap, rfl, _⟩
  · exact ⟨_, _, rfl⟩
  · exact ⟨_, _, rfl⟩
set_option maxHeartbeats 4000000 in
set_option maxRecDepth 100000 in
theorem overlap4 (W : World) (ca cb : List Value) (la lb : List Nd) (ha : Ch W ca la) (hb : Ch W cb lb) (hla : la.length ≤ 200) (hlb : lb.length ≤ 200) :
    Calls Try.prog 4 #[.agg ca.toArray, .agg cb.toArray] W (Ov W la lb stC cC) := by
  obtain ⟨x0, x2, x, xo, xn, xc, rfl⟩ := ha.form
  obtain ⟨y0, y2, y, yo, yn, yc, rfl⟩ := hb.form
  go_enter Try.func4, Try.ntmps4
  go_upto_region 1 with fail
  obtain ⟨w2, hw2, hA, hB⟩ := two_boxes W [.int .i64 x0, .int .i64 x.x1, .int .i64 x2, .string x.s3, .slice xo xn xc, .slice x.a5 x.n5 x.k5, .int .i64 x.x6, .string x.s7, .int .i64 x.x8, .slice x.a9 x.n9 x.k9] [.int .i64 y0, .int .i64 y.x1, .int .i64 y2, .string y.s3, .slice yo yn yc, .slice y.a5 y.n5 y.k5, .int .i64 y.x6, .string y.s7, .int .i64 y.x8, .slice y.a9 y.n9 y.k9]
  rw [hw2]
  clear hw2
  obtain ⟨fa, hfa⟩ : ∃ y, W.heap.size = y := ⟨_, rfl⟩
  have HF := Lib.hid hfa
  obtain ⟨fb, hfb⟩ : ∃ y, W.heap.size + 1 = y := ⟨_, rfl⟩
  obtain ⟨a0, a1, a2, a3, a4, a5, a6, a7, a8, a9⟩ := hA.cells
  have hc1 := ha.keep hA.bel
  have hc2 := hb.keep hB.bel
  clear hfa hfb
  go_upto_region 2 with (go_at_call 7; refine (steps_calls _ _ la hc1 hla).mono ?_; rintro e w3 ⟨r, v, ok, L, rfl, hb3, hO3, hL3, hT3⟩)
  have hB3 := hB.keep hb3
  have hc3 := hc2.keep hb3
  clear a0 a1 a2 a3 a4 a5 a6 a7 a8 a9
  obtain ⟨a0, a1, a2, a3, a4, a5, a6, a7, a8, a9⟩ := hB3.cells
  go_upto_region 3 with (go_at_call 7; refine (steps_calls _ _ lb hc3 hlb).mono ?_; rintro e w4 ⟨s, u, is, M, rfl, hb4, hO4, hM4, hT4⟩)
  have hO5 := own_below hO3 hb4
  have hB5 : Below W.heap.size W w4 := hB3.bel.trans (hb4.mono hB3.bel.size)
  clear a0 a1 a2 a3 a4 a5 a6 a7 a8 a9 hA hB hc1 hc2 hc3 hO3 hB3 hb3 hb4
  obtain ⟨o1, n1, rfl⟩ := own_len hO5
  obtain ⟨o2, n2, rfl⟩ := own_len hO4
  by_cases hbad : (ok && is && (r == s)) = false
  · cases ok with
    | false =>
      go_wp2
      exact bodyPost_ret (v := .bool false) (by simp [results, Try.results4, go_sem]) rfl ⟨⟨r, s, false, is, L, M, hT3, hT4, by simp, hB5⟩⟩
    | true => cases is with
      | false =>
        go_wp2
        exact bodyPost_ret (v := .bool false) (by simp [results, Try.results4, go_sem]) rfl ⟨⟨r, s, true, false, L, M, hT3, hT4, by simp, hB5⟩⟩
      | true =>
        have hrs : r ≠ s := by simpa using hbad
        go_wp2
        exact bodyPost_ret (v := .bool false) (by simp [results, Try.results4, go_sem]) rfl ⟨⟨r, s, true, true, L, M, hT3, hT4, by simp [hrs], hB5⟩⟩
  · have hall : ok = true ∧ is = true ∧ r = s := by simpa [and_assoc] using hbad
    obtain ⟨rfl, rfl, rfl⟩ := hall
    have HT3 := Lib.hid hT3
    have HT4 := Lib.hid hT4
    have HB := Lib.hid hB5
    obtain ⟨d, hd⟩ : ∃ d, L.length = d := ⟨_, rfl⟩
    obtain ⟨e, he⟩ : ∃ e, M.length = e := ⟨_, rfl⟩
    have HD := Lib.hid hd
    have HE := Lib.hid he
    rw [hd] at hO5 hL3
    rw [he] at hO4 hM4
    simp only [hd, he]
    clear hT3 hT4 hbad hB5 hd he
    go_upto_region 5 with fail
    go_cut [39, 40] (fun mv iv wx => mv = .int .i64 (min d e : Nat) ∧ iv = .int .i64 0 ∧ w4 = wx)
    case first =>
      go_wp2
      all_goals
        go_meet
        exact ⟨by congr 1; omega, rfl, rfl⟩
    case rest =>
    obtain ⟨rfl, rfl, rfl⟩ := hcut
    obtain ⟨m, hm⟩ : ∃ m, min d e = m := ⟨_, rfl⟩
    have hm2 : m ≤ 200 := by omega
    rw [hm]
    go_wp2
    go_loopw [40, 11] (fun i j wr => ∃ k : Nat, k ≤ m ∧ i = .int .i64 k ∧ Below w4.heap.size w4 wr ∧ ∀ q a b, q < k → L[q]? = some a → M[q]? = some b → cC a b = false) (fun i _ _ => m - (intOf i).toNat)
    case atStart => exact ⟨0, Nat.zero_le _, rfl, Below.refl _ _, fun q a b h => absurd h (by omega)⟩
    case round =>
      obtain ⟨k, hk, rfl, hBr, hno⟩ := hrel
      by_cases hlt : k < m
      · have o5 := own_below hO5 hBr
        have o4 := own_below hO4 hBr
        rcases own_form2 hO5 with ⟨_, h0⟩ | ⟨g1, m1, e1, _⟩
        · omega
        rcases own_form2 hO4 with ⟨_, h0⟩ | ⟨g2, m2, e2, _⟩
        · omega
        injection e1 with e1 _ e1'
        injection e2 with e2 _ e2'
        subst e1 e1' e2 e2'
        obtain ⟨a, ha'⟩ : ∃ a, L[k]? = some a := ⟨_, List.getElem?_eq_getElem (by have := HD.out; omega)⟩
        obtain ⟨b, hb'⟩ : ∃ a, M[k]? = some a := ⟨_, List.getElem?_eq_getElem (by have := HE.out; omega)⟩
        obtain ⟨p1, p2⟩ := flat_get L k a ha'
        obtain ⟨q1, q2⟩ := flat_get M k b hb'
        obtain ⟨c1, _⟩ := own_cell o5 p1
        obtain ⟨c2, _⟩ := own_cell o5 p2
        obtain ⟨c3, _⟩ := own_cell o4 q1
        obtain ⟨c4, _⟩ := own_cell o4 q2
        have hkd : k < d := by omega
        have hke : k < e := by omega
        obtain ⟨a1, a2⟩ := a
        obtain ⟨b1, b2⟩ := b
        go_upto_region 8 with fail
        by_cases e1 : a1 = b1
        · by_cases e2 : a2 = b2
          · go_region
            all_goals
              go_wp2
              go_roundw
              case rel =>
                refine ⟨k + 1, by omega, by go_num, below_drew hBr, ?_⟩
                intro q a b h1 h2 h3
                by_cases hq : q < k
                · exact hno q a b hq h2 h3
                · obtain rfl : q = k := by omega
                  rw [ha'] at h2
                  rw [hb'] at h3
                  injection h2 with h2
                  injection h3 with h3
                  subst h2 h3
                  simp [cC, e1, e2]
              case measure => simp [intOf]; omega
          · go_region
            all_goals
              go_wp2
              have hag : agree cC L M = false := agree_no ha' hb' (by simp [cC, e1, e2])
              exact bodyPost_ret (v := .bool false) (by simp [results, Try.results4, go_sem]) rfl ⟨⟨r, r, true, true, L, M, HT3.out, HT4.out, by simp [hag], HB.out.trans ((below_drew hBr).mono HB.out.size)⟩⟩
        · go_region
          all_goals
              go_wp2
              go_roundw
              case rel =>
                refine ⟨k + 1, by omega, by go_num, below_drew hBr, ?_⟩
                intro q a b h1 h2 h3
                by_cases hq : q < k
                · exact hno q a b hq h2 h3
                · obtain rfl : q = k := by omega
                  rw [ha'] at h2
                  rw [hb'] at h3
                  injection h2 with h2
                  injection h3 with h3
                  subst h2 h3
                  simp [cC, e1]
              case measure => simp [intOf]; omega
      · obtain rfl : k = m := by omega
        have hag : agree cC L M = true := agree_yes fun q a b h1 h2 => hno q a b (by
          have := (List.getElem?_eq_some_iff.1 h1).1
          have := (List.getElem?_eq_some_iff.1 h2).1
          have := HD.out
          have := HE.out
          omega) h1 h2
        go_wp2
        exact bodyPost_ret (v := .bool true) (by simp [results, Try.results4, go_sem]) rfl ⟨⟨r, r, true, true, L, M, HT3.out, HT4.out, by simp [hag], HB.out.trans (hBr.mono HB.out.size)⟩⟩
end Go.Proofs.Ytbobnbndbgpanaa.W
