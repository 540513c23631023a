/- TypesEnums: the enum that the law makes, and what is counted of it. -/
import Derived.Test.YtioediibbgklcaaTyP
namespace Go.Proofs.Ytioediibbgklcaa.W
open Go Go.RowKit Go.Proofs
set_option linter.unusedVariables false
set_option linter.unusedSimpArgs false
def nameN (k : Nat) : ByteArray := ⟨#[UInt8.ofNat (65 + k)]⟩
def flat3 : Nat → List Value → List Value
  | _, [] => []
  | k, a :: rs => .string (nameN k) :: a :: .int .i64 0 :: flat3 (k + 1) rs
theorem flat3_snoc : ∀ (rs : List Value) (k : Nat) (a : Value), flat3 k (rs ++ [a]) = flat3 k rs ++ [.string (nameN (k + rs.length)), a, .int .i64 0]
  | [], k, a => rfl
  | b :: rs, k, a => by simp only [List.cons_append, flat3, flat3_snoc rs, List.length_cons]; rw [show k + 1 + rs.length = k + (rs.length + 1) by omega]
theorem flat3_get : ∀ (rs : List Value) (k i : Nat) (a : Value), rs[i]? = some a → (flat3 k rs)[i * 3]? = some (.string (nameN (k + i))) ∧ (flat3 k rs)[i * 3 + 1]? = some a ∧ (flat3 k rs)[i * 3 + 2]? = some (.int .i64 0)
  | [], k, i, a, h => by simp at h
  | b :: rs, k, 0, a, h => by simp at h; subst h; exact ⟨rfl, rfl, rfl⟩
  | b :: rs, k, i + 1, a, h => by
    obtain ⟨h1, h2, h3⟩ := flat3_get rs (k + 1) i a (by simpa using h)
    refine ⟨?_, ?_, ?_⟩
    · rw [show (i + 1) * 3 = i * 3 + 3 by omega, show k + (i + 1) = k + 1 + i by omega]; simpa [flat3] using h1
    · rw [show (i + 1) * 3 + 1 = (i * 3 + 1) + 3 by omega]; simpa [flat3] using h2
    · rw [show (i + 1) * 3 + 2 = (i * 3 + 2) + 3 by omega]; simpa [flat3] using h3
/-- The variants made. -/
structure En (B : Nat) (w : World) (v : Value) (E : List (Nat × Bool)) : Prop where
  ex : ∃ rs : List Value, rs.length = E.length ∧ w.ownsRow B 48 3 v E.length (flat3 0 rs) ∧ ∀ (i : Nat) (a : Value) (p : Nat × Bool), rs[i]? = some a → E[i]? = some p → ∃ gs, Vr B w a p.1 p.2 gs
def mostE (E : List (Nat × Bool)) : Nat := E.foldl (fun m p => max m p.1) 0
def copE (E : List (Nat × Bool)) : Bool := E.all fun p => decide (p.1 = 0) || !p.2
structure Nums (W : World) (a : Option Addr) (n : Nat) (f : Nat → Int) : Prop where
  le : n ≤ 9223372036854775807
  cells : 0 < n → ∃ b o, a = some ⟨b, o, none⟩ ∧ ∀ j, j < n → W.cell? ⟨b, o + j, none⟩ = some (.int .i64 (f j))
theorem Vr.base {B B' : Nat} {w : World} {v : Value} {n : Nat} {od : Bool} {gs : List (Option Nat)} (h : Vr B' w v n od gs) (hb : B ≤ B') : Vr B w v n od gs :=
  ⟨⟨h.own.1, h.own.2.imp id fun ⟨g, cap, cur, a, b, c⟩ => ⟨g, cap, cur, a, Nat.le_trans hb b, c⟩⟩, h.len, h.kind, h.box, h.apart⟩
theorem info48 : (Try.prog.info? 48).map (fun i => (i.zero, i.size, i.bytes)) = some (some (.agg #[.string ⟨#[]⟩, .slice none 0 0, .int .i64 0]), 3, 48) := by kernel_rfl
theorem En.more {B : Nat} {w w8 : World} {v8 a : Value} {E : List (Nat × Bool)} {rs : List Value} {n : Nat} {od : Bool} {gs : List (Option Nat)} (hl : rs.length = E.length) (hR : ∀ (i : Nat) (a : Value) (p : Nat × Bool), rs[i]? = some a → E[i]? = some p → ∃ gs, Vr B w a p.1 p.2 gs)
    (hs : Same26 w w8) (hV : Vr B w8 a n od gs) (hown : w8.ownsRow B 48 3 v8 (E.length + 1) (flat3 0 rs ++ [.string (nameN E.length), a, .int .i64 0])) : En B w8 v8 (E ++ [(n, od)]) := by
  refine ⟨rs ++ [a], by simp [hl], ?_, ?_⟩
  · rw [flat3_snoc, Nat.zero_add, hl, List.length_append]
    exact hown
  · intro i a' p h1 h2
    by_cases h : i < rs.length
    · rw [List.getElem?_append_left h] at h1
      rw [List.getElem?_append_left (by omega)] at h2
      obtain ⟨gs, hv⟩ := hR i a' p h1 h2
      exact ⟨gs, hv.keep hs⟩
    · rw [List.getElem?_append_right (by omega)] at h1 h2
      have h3 : i - rs.length = 0 := by have := (List.getElem?_eq_some_iff.1 h1).1; simp at this; omega
      rw [h3] at h1
      rw [← hl, h3] at h2
      simp at h1 h2
      subst h1 h2
      exact ⟨gs, hV⟩
theorem name_conv (w : World) (i : Nat) (hi : i < 5) : (convert 23 9 (.slice (some ⟨w.heap.size, 0, none⟩) 1 1)).run Try.prog (w.alloc (.cells #[.int .u8 (65 + (i : Int))] 5)) = .ok (.string (nameN i)) (w.alloc (.cells #[.int .u8 (65 + (i : Int))] 5)) := by
  refine run_convert_bytes_back _ 23 9 5 ⟨w.heap.size, 0, none⟩ 1 [UInt8.ofNat (65 + i)] Try.underlying23 Try.underlying5 Try.underlying9 (fun j hj => ?_)
  have h0 : j = 0 := by simpa using hj
  subst h0
  rw [Addr.add_lit, cell_of_row _ _ _ _ 5 (0, 0) (heap_alloc_new w _)]
  have h1 : (UInt8.ofNat (65 + i)).toNat = 65 + i := by
    rw [UInt8.toNat_ofNat']
    omega
  simp [h1]
  omega
/-- Midway in a round: the type lies in block tb. -/
structure Mid (w0 : World) (tb : Nat) (v : Value) (j : Nat) (od : Bool) (gs : List (Option Nat)) (x : Option Nat) (w : World) : Prop where
  vr : Vr w0.heap.size w v j od gs
  bel : Below w0.heap.size w0 w
  cells : ∀ k, k < 4 → w.cell? ⟨tb, k, none⟩ = (quad x)[k]?
  kind : x.isSome = od
  box : ∀ g, x = some g → w.heap[g]? = some (.cells inner 26 (0, 0)) ∧ v.ownBlock ≠ some g
def vsE : Nat → List (Nat × Bool) → List (ByteArray × List Ty)
  | _, [] => []
  | k, p :: E => (nameN k, List.replicate p.1 (tyB p.2)) :: vsE (k + 1) E
theorem vsE_len : ∀ (E : List (Nat × Bool)) (k : Nat), (vsE k E).length = E.length
  | [], _ => rfl
  | p :: E, k => by simp [vsE, vsE_len E]
theorem vsE_get : ∀ (E : List (Nat × Bool)) (k i : Nat), (vsE k E)[i]? = E[i]?.map fun p => (nameN (k + i), List.replicate p.1 (tyB p.2))
  | [], k, i => by simp [vsE]
  | p :: E, k, 0 => by simp [vsE]
  | p :: E, k, i + 1 => by
    have := vsE_get E (k + 1) i
    rw [show k + (i + 1) = k + 1 + i by omega]
    simpa [vsE] using this
/-- The rows as variants. -/
theorem En.at {B : Nat} {w : World} {v : Value} {E : List (Nat × Bool)} (h : En B w v E) (hE : ∀ p ∈ E, p.1 ≤ 7) : ∃ va vc, v = .slice va E.length vc ∧ VsAt w va (vsE 0 E) := by
  obtain ⟨rs, hrl, hro, hrv⟩ := h.ex
  rcases own_form2 hro with ⟨rfl, h0⟩ | ⟨g, cap, rfl, _, _, _⟩
  · refine ⟨none, 0, by rw [h0], fun i t h => ?_⟩
    have : (vsE 0 E).length = 0 := by rw [vsE_len, h0]
    rw [List.eq_nil_of_length_eq_zero this] at h
    simp at h
  · refine ⟨_, _, rfl, fun i v hv => ?_⟩
    rw [vsE_get] at hv
    cases hp : E[i]? with
    | none => rw [hp] at hv; simp at hv
    | some p =>
      rw [hp] at hv
      simp only [Option.map_some, Option.some.injEq, Nat.zero_add] at hv
      subst hv
      have hil : i < rs.length := by have := (List.getElem?_eq_some_iff.1 hp).1; omega
      obtain ⟨a, ha⟩ : ∃ a, rs[i]? = some a := ⟨_, List.getElem?_eq_getElem hil⟩
      obtain ⟨gs, hV⟩ := hrv i a p ha hp
      obtain ⟨ta, tc, rfl, hty⟩ := hV.types
      obtain ⟨f0, f1, f2⟩ := flat3_get rs 0 i _ ha
      have hc := hro.cells (g := g) rfl
      have h7 := hE p (List.mem_of_getElem? hp)
      refine ⟨g, 0, ta, tc, 0, rfl, ?_, ?_, ?_, by simp; omega, hty⟩
      · have := hc _ _ f0; rw [Addr.add_lit] at this; simpa using this
      · have := hc _ _ f1; rw [Addr.add_lit] at this; simpa [Nat.add_assoc] using this
      · have := hc _ _ f2; rw [Addr.add_lit] at this; simpa [Nat.add_assoc] using this
def nmE : ByteArray := ⟨#[69]⟩
def tE : Ty := .mk 9 nmE 0 []
def itE (E : List (Nat × Bool)) : It := ⟨3, nmE, [], vsE 0 E⟩
theorem itemOf_E (E : List (Nat × Bool)) : itemOf [itE E] tE = some (itE E) := by
  rw [itemOf_eq, if_pos (show tE.kind = 9 from rfl)]
  simp [itE, named?, tE, Ty.name]
theorem add_tyB (its : List It) (f l : Nat) (od : Bool) : addS its (f + 1) (l + 1) (tyB od) = some (l, ⟨1, 1, od⟩) := by
  cases od <;> simp [tyB, addS, Ty.kind, Ty.el]
theorem sum_tyB (its : List It) (f : Nat) (od : Bool) : ∀ (n l : Nat) (a : Am), sumS (addS its (f + 1)) (List.replicate n (tyB od)) (l + n) a = some (l, ⟨a.parts + n, a.words + n, a.moves || (decide (n ≠ 0) && od)⟩)
  | 0, l, a => by simp [sumS]
  | n + 1, l, a => by
    rw [List.replicate_succ, show l + (n + 1) = l + n + 1 by omega]
    simp only [sumS, add_tyB]
    rw [sum_tyB its f od n l]
    simp only [Am.plus, Option.some.injEq, Prod.mk.injEq, Am.mk.injEq, true_and]
    refine ⟨by omega, by omega, ?_⟩
    cases a.moves <;> cases od <;> simp
theorem enum_E (its : List It) (f : Nat) : ∀ (E : List (Nat × Bool)) (k l mo : Nat) (a : Am), 7 * E.length ≤ l → (∀ p ∈ E, p.1 ≤ 7) → ∃ l' p' w', enumS (addS its (f + 1)) ((vsE k E).map Prod.snd) l mo a = some (l', E.foldl (fun m p => max m p.1) mo, ⟨p', w', a.moves || !copE E⟩)
  | [], k, l, mo, a, _, _ => ⟨l, a.parts, a.words, by simp [vsE, enumS, copE]⟩
  | q :: E, k, l, mo, a, hl, h7 => by
    have hq := h7 q (by simp)
    simp only [List.length_cons] at hl
    have hs := sum_tyB its f q.2 q.1 (l - q.1) ⟨0, 0, false⟩
    rw [show l - q.1 + q.1 = l by omega] at hs
    obtain ⟨l', p', w', ih⟩ := enum_E its f E (k + 1) (l - q.1) (max mo q.1) (a.plus ⟨0 + q.1, 0 + q.1, false || (decide (q.1 ≠ 0) && q.2)⟩) (by omega) (fun p hp => h7 p (by simp [hp]))
    refine ⟨l', p', w', ?_⟩
    simp only [vsE, List.map_cons, enumS, hs, Nat.zero_add, List.foldl_cons]
    simp only [Nat.zero_add] at ih
    rw [ih]
    simp only [Am.plus, copE, List.all_cons, Option.some.injEq, Prod.mk.injEq, Am.mk.injEq, true_and]
    cases a.moves <;> cases q.2 <;> by_cases h0 : q.1 = 0 <;> simp [h0]
theorem measure_E (E : List (Nat × Bool)) (h5 : E.length ≤ 5) (h7 : ∀ p ∈ E, p.1 ≤ 7) : ∃ p', measureS [itE E] tE = some ⟨p', mostE E + 1, !copE E⟩ := by
  obtain ⟨l', p', w', h⟩ := enum_E [itE E] 511 E 0 511 0 ⟨1, 0, false⟩ (by omega) h7
  refine ⟨p', ?_⟩
  unfold measureS
  rw [show (513 : Nat) = 512 + 1 from rfl, show (512 : Nat) = 511 + 1 from rfl, addS_named _ _ _ _ rfl]
  unfold namedS
  rw [itemOf_E]
  simp only [show (itE E).vs = vsE 0 E from rfl, show (itE E).kind = 3 from rfl, h]
  simp [endE, mostE]
theorem most_le : ∀ (E : List (Nat × Bool)) (m : Nat), m ≤ 7 → (∀ p ∈ E, p.1 ≤ 7) → E.foldl (fun m p => max m p.1) m ≤ 7
  | [], m, h, _ => h
  | q :: E, m, h, h7 => by
    have := h7 q (by simp)
    exact most_le E (max m q.1) (by omega) (fun p hp => h7 p (by simp [hp]))
theorem words_E (E : List (Nat × Bool)) (h5 : E.length ≤ 5) (h7 : ∀ p ∈ E, p.1 ≤ 7) : wordsS [itE E] tE = some (mostE E + 1) := by
  obtain ⟨p', h⟩ := measure_E E h5 h7
  have hm : mostE E ≤ 7 := most_le E 0 (by omega) h7
  unfold wordsS
  rw [h]
  simp
  omega
theorem copy_E (E : List (Nat × Bool)) (h5 : E.length ≤ 5) (h7 : ∀ p ∈ E, p.1 ≤ 7) : copyS [itE E] tE = copE E := by
  obtain ⟨p', h⟩ := measure_E E h5 h7
  unfold copyS
  rw [h]
  simp
theorem name_toList (k : Nat) : (nameN k).toList = [UInt8.ofNat (65 + k)] := ByteArray.toList_mk [UInt8.ofNat (65 + k)]
theorem name_ne {a b : Nat} (ha : a < 26) (hb : b < 26) (h : a ≠ b) : ((nameN a).toList == (nameN b).toList) = false := by
  rw [name_toList, name_toList]
  rw [beq_eq_false_iff_ne]
  intro e
  simp only [List.cons.injEq, and_true] at e
  have := congrArg UInt8.toNat e
  rw [UInt8.toNat_ofNat', UInt8.toNat_ofNat'] at this
  omega
theorem find_E (E : List (Nat × Bool)) (h5 : E.length ≤ 5) (i : Nat) (hi : i < E.length) : (vsE 0 E).findIdx? (isVar (nameN i)) = some i := by
  obtain ⟨p, hp⟩ : ∃ p, E[i]? = some p := ⟨_, List.getElem?_eq_getElem hi⟩
  have hv : (vsE 0 E)[i]? = some (nameN (0 + i), List.replicate p.1 (tyB p.2)) := by rw [vsE_get, hp]; rfl
  refine findIdx_at hv (by simp [isVar]) (fun q y hq hy => ?_)
  rw [vsE_get] at hy
  cases hq2 : E[q]? with
  | none => rw [hq2] at hy; simp at hy
  | some z =>
    rw [hq2] at hy
    simp only [Option.map_some, Option.some.injEq, Nat.zero_add] at hy
    subst hy
    exact name_ne (by omega) (by omega) (by omega)
theorem variant_E (E : List (Nat × Bool)) (h5 : E.length ≤ 5) (i : Nat) (p : Nat × Bool) (hp : E[i]? = some p) : variantS [itE E] tE (nameN i) = some (i, p.1) := by
  unfold variantS
  rw [itemOf_E]
  have hi := (List.getElem?_eq_some_iff.1 hp).1
  simp only [show (itE E).vs = vsE 0 E from rfl, show (itE E).kind = 3 from rfl, if_true, find_E E h5 i hi, vsE_get, hp]
  simp
theorem variant_Z (E : List (Nat × Bool)) (h5 : E.length ≤ 5) : variantS [itE E] tE (nameN 25) = none := by
  unfold variantS
  rw [itemOf_E]
  have h : (vsE 0 E).findIdx? (isVar (nameN 25)) = none := findIdx_no fun q y hq hy => by
    rw [vsE_len] at hq
    rw [vsE_get] at hy
    cases hq2 : E[q]? with
    | none => rw [hq2] at hy; simp at hy
    | some z =>
      rw [hq2] at hy
      simp only [Option.map_some, Option.some.injEq, Nat.zero_add] at hy
      subst hy
      exact name_ne (by omega) (by omega) (by omega)
  simp only [show (itE E).vs = vsE 0 E from rfl, show (itE E).kind = 3 from rfl, if_true, h]
theorem VsAt.keep {W w : World} {a : Option Addr} {vs : List (ByteArray × List Ty)} (h : VsAt W a vs) (hb : Below W.heap.size W w) : VsAt w a vs := fun i v hv => by
  obtain ⟨b, o, ta, tc, x, ha, x0, x1, x2, hl, hts⟩ := h i v hv
  exact ⟨b, o, ta, tc, x, ha, keep_cell hb x0, keep_cell hb x1, keep_cell hb x2, hl, hts.keep hb⟩
def tl0 : Tl := ⟨0, 0, nil0, 0, none, 0, 0, 0, 0, 0, 0, nil0, none, 0, 0, none, 0, 0, 0, nil0, 0, none, 0, 0⟩
/-- What the calls over the law's enum answer. -/
structure Ans (E : List (Nat × Bool)) (ib : Nat) (wz : World) : Prop where
  words : Calls Try.prog 7 #[.slice (some ⟨ib, 0, none⟩) 1 1, .agg #[.int .i64 9, .string ⟨#[69]⟩, .int .i64 0, .slice none 0 0]] wz fun e w' => e = .returned (.tuple #[.int .i64 ((mostE E : Int) + 1), .bool true]) ∧ Below wz.heap.size wz w'
  copy : ∀ w1, Below wz.heap.size wz w1 → Calls Try.prog 10 #[.slice (some ⟨ib, 0, none⟩) 1 1, .agg #[.int .i64 9, .string ⟨#[69]⟩, .int .i64 0, .slice none 0 0]] w1 fun e w' => e = .returned (.bool (copE E)) ∧ Below w1.heap.size w1 w'
  var : ∀ w1, Below wz.heap.size wz w1 → ∀ i p, E[i]? = some p → Calls Try.prog 14 #[.slice (some ⟨ib, 0, none⟩) 1 1, .agg #[.int .i64 9, .string ⟨#[69]⟩, .int .i64 0, .slice none 0 0], .string (nameN i)] w1 fun e w' => (∃ a c, e = .returned (.tuple #[.int .i64 i, .slice a p.1 c, .bool true])) ∧ Below w1.heap.size w1 w'
  zed : ∀ w1, Below wz.heap.size wz w1 → Calls Try.prog 14 #[.slice (some ⟨ib, 0, none⟩) 1 1, .agg #[.int .i64 9, .string ⟨#[69]⟩, .int .i64 0, .slice none 0 0], .string ⟨#[90]⟩] w1 fun e w' => e = .returned (.tuple #[.int .i64 0, .slice none 0 0, .bool false]) ∧ Below w1.heap.size w1 w'
theorem ans_of (E : List (Nat × Bool)) (h5 : E.length ≤ 5) (h7 : ∀ p ∈ E, p.1 ≤ 7) (ib : Nat) (wz : World) (va : Option Addr) (vc : Nat) (hV : VsAt wz va (vsE 0 E)) (hblk : wz.heap[ib]? = some (.cells (itCells 3 nmE none 0 0 va E.length vc tl0).toArray 35 (0, 0))) : Ans E ib wz := by
  have hI : ItsAt wz (some ⟨ib, 0, none⟩) [itE E] := by
    intro q it h
    match q, h with
    | 0, h =>
      simp at h
      subst h
      refine ⟨ib, 0, itCells 3 nmE none 0 0 va E.length vc tl0, rfl, rfl, fun j hj => ?_, ⟨none, 0, va, vc, tl0, ?_, by simp [itE], ?_, fun i p h => by simp [itE] at h, hV⟩⟩
      · rw [show 0 + 0 * 20 + j = j by omega, cell_of_row _ _ _ _ 35 (0, 0) hblk]; simp
      · show _ = itCells 3 nmE none 0 0 va (vsE 0 E).length vc tl0
        rw [vsE_len]
      · show (vsE 0 E).length ≤ _
        rw [vsE_len]; omega
    | q + 1, h => simp at h
  have hT : TyAt wz [.int .i64 tE.kind, .string tE.name, .int .i64 tE.n, .slice none tE.el.length 0] tE := .mk 9 nmE 0 none 0 [] (by simp) 0 0 (fun _ _ => .bool false) (by simp) (by simp) (by simp)
  have hvs : ∀ it, itemOf [itE E] tE = some it → ∀ v ∈ it.vs, v.2.length ≤ 1000 := by
    intro it h v hv
    rw [itemOf_E] at h
    injection h with h
    subst h
    obtain ⟨q, hq⟩ := List.getElem?_of_mem hv
    have hq : (vsE 0 E)[q]? = some v := hq
    rw [vsE_get] at hq
    cases hp : E[q]? with
    | none => rw [hp] at hq; simp at hq
    | some p =>
      rw [hp] at hq
      simp at hq
      subst hq
      have := h7 p (List.mem_of_getElem? hp)
      simp; omega
  refine ⟨?_, fun w1 hb => ?_, fun w1 hb i p hp => ?_, fun w1 hb => ?_⟩
  · refine (words_calls wz wz (Below.refl _ _) (some ⟨ib, 0, none⟩) [itE E] 1 (by simp) hI tE none 0 hT).mono fun e w' h => ⟨?_, h.2⟩
    rw [h.1, words_E E h5 h7]
    simp [wordsV]
  · refine (copy_calls wz w1 hb (some ⟨ib, 0, none⟩) [itE E] 1 (by simp) hI tE none 0 hT).mono fun e w' h => ⟨?_, h.2⟩
    rw [h.1, copy_E E h5 h7]
  · refine (variant_calls wz w1 hb (some ⟨ib, 0, none⟩) [itE E] 1 (by simp) hI tE none 0 0 (nameN i) hvs).mono fun e w' h => ⟨h.1.yes i p.1 (variant_E E h5 i p hp), h.2⟩
  · exact (variant_calls wz w1 hb (some ⟨ib, 0, none⟩) [itE E] 1 (by simp) hI tE none 0 0 (nameN 25) hvs).mono fun e w' h => ⟨h.1.no (variant_Z E h5), h.2⟩
end Go.Proofs.Ytioediibbgklcaa.W
