/- Types and items in memory; what the package counts of them. -/
import Derived.Test.YtioediibbgklcaaProg
import Derived.WalkKit
import Derived.Below
import Derived.ProofKit
import Derived.Laws.AppendOwn
namespace Go.Proofs.Ytioediibbgklcaa.W
open Go Go.RowKit Go.Proofs
set_option linter.unusedVariables false
inductive Ty where
  | mk (kind : Int) (name : ByteArray) (n : Int) (el : List Ty)
def Ty.kind : Ty → Int
  | .mk k _ _ _ => k
def Ty.name : Ty → ByteArray
  | .mk _ s _ _ => s
def Ty.n : Ty → Int
  | .mk _ _ n _ => n
def Ty.el : Ty → List Ty
  | .mk _ _ _ l => l
/-- A type's four cells. -/
inductive TyAt (W : World) : List Value → Ty → Prop
  | mk (kd : Int) (nm : ByteArray) (n : Int) (a : Option Addr) (cap : Nat) (els : List Ty) (hl : els.length ≤ 9223372036854775807)
      (b o : Nat) (cf : Nat → Nat → Value) (ha : 0 < els.length → a = some ⟨b, o, none⟩) (hc : ∀ i j, i < els.length → j < 4 → W.cell? ⟨b, o + i * 4 + j, none⟩ = some (cf i j))
      (h : ∀ i t, els[i]? = some t → TyAt W [cf i 0, cf i 1, cf i 2, cf i 3] t) :
      TyAt W [.int .i64 kd, .string nm, .int .i64 n, .slice a els.length cap] (.mk kd nm n els)
/-- Types in a row. -/
def TysAt (W : World) (a : Option Addr) (ts : List Ty) : Prop :=
  ∀ i t, ts[i]? = some t → ∃ b o c0 c1 c2 c3, a = some ⟨b, o, none⟩ ∧ W.cell? ⟨b, o + i * 4, none⟩ = some c0 ∧ W.cell? ⟨b, o + i * 4 + 1, none⟩ = some c1 ∧ W.cell? ⟨b, o + i * 4 + 2, none⟩ = some c2 ∧ W.cell? ⟨b, o + i * 4 + 3, none⟩ = some c3 ∧ TyAt W [c0, c1, c2, c3] t
theorem TyAt.inv {W : World} {c0 c1 c2 c3 : Value} {t : Ty} (h : TyAt W [c0, c1, c2, c3] t) : ∃ a cap, c0 = .int .i64 t.kind ∧ c1 = .string t.name ∧ c2 = .int .i64 t.n ∧ c3 = .slice a t.el.length cap ∧ t.el.length ≤ 9223372036854775807 ∧ TysAt W a t.el := by
  cases h with
  | mk kd nm n a cap els hl b o cf ha hc h =>
    refine ⟨a, cap, rfl, rfl, rfl, rfl, hl, fun i t ht => ?_⟩
    have hi : i < els.length := (List.getElem?_eq_some_iff.1 ht).1
    exact ⟨b, o, cf i 0, cf i 1, cf i 2, cf i 3, ha (by omega), hc i 0 hi (by omega), hc i 1 hi (by omega), hc i 2 hi (by omega), hc i 3 hi (by omega), h i t ht⟩
structure It where
  kind : Int
  name : ByteArray
  ps : List (ByteArray × Ty)
  vs : List (ByteArray × List Ty)
/-- What else an item holds. -/
structure Tl where
  x2 : Int
  x5 : Int
  s6 : ByteArray
  x7 : Int
  a8 : Option Addr
  n8 : Nat
  k8 : Nat
  x9 : Int
  x10 : Int
  x11 : Int
  x12 : Int
  s13 : ByteArray
  a14 : Option Addr
  n14 : Nat
  k14 : Nat
  a15 : Option Addr
  n15 : Nat
  k15 : Nat
  x16 : Int
  s17 : ByteArray
  x18 : Int
  a19 : Option Addr
  n19 : Nat
  k19 : Nat
def itCells (kd : Int) (nm : ByteArray) (pa : Option Addr) (pn pc : Nat) (va : Option Addr) (vn vc : Nat) (t : Tl) : List Value :=
  [.int .i64 kd, .string nm, .int .i64 t.x2, .slice pa pn pc, .slice va vn vc, .int .i64 t.x5, .string t.s6, .int .i64 t.x7, .slice t.a8 t.n8 t.k8, .int .i64 t.x9,
   .int .i64 t.x10, .int .i64 t.x11, .int .i64 t.x12, .string t.s13, .slice t.a14 t.n14 t.k14, .slice t.a15 t.n15 t.k15, .int .i64 t.x16, .string t.s17, .int .i64 t.x18, .slice t.a19 t.n19 t.k19]
def PsAt (W : World) (a : Option Addr) (ps : List (ByteArray × Ty)) : Prop :=
  ∀ i p, ps[i]? = some p → ∃ b o mu, ∃ x : Int, ∃ c0 c1 c2 c3, a = some ⟨b, o, none⟩ ∧ W.cell? ⟨b, o + i * 7, none⟩ = some (.string p.1) ∧ W.cell? ⟨b, o + i * 7 + 1, none⟩ = some (.bool mu) ∧ W.cell? ⟨b, o + i * 7 + 2, none⟩ = some c0 ∧ W.cell? ⟨b, o + i * 7 + 3, none⟩ = some c1 ∧ W.cell? ⟨b, o + i * 7 + 4, none⟩ = some c2 ∧ W.cell? ⟨b, o + i * 7 + 5, none⟩ = some c3 ∧ W.cell? ⟨b, o + i * 7 + 6, none⟩ = some (.int .i64 x) ∧ TyAt W [c0, c1, c2, c3] p.2
def VsAt (W : World) (a : Option Addr) (vs : List (ByteArray × List Ty)) : Prop :=
  ∀ i v, vs[i]? = some v → ∃ b o ta tc, ∃ x : Int, a = some ⟨b, o, none⟩ ∧ W.cell? ⟨b, o + i * 3, none⟩ = some (.string v.1) ∧ W.cell? ⟨b, o + i * 3 + 1, none⟩ = some (.slice ta v.2.length tc) ∧ W.cell? ⟨b, o + i * 3 + 2, none⟩ = some (.int .i64 x) ∧ v.2.length ≤ 9223372036854775807 ∧ TysAt W ta v.2
/-- An item's twenty cells. -/
structure ItAt (W : World) (cs : List Value) (it : It) : Prop where
  ex : ∃ pa pc va vc t, cs = itCells it.kind it.name pa it.ps.length pc va it.vs.length vc t ∧ it.ps.length ≤ 9223372036854775807 ∧ it.vs.length ≤ 9223372036854775807 ∧ PsAt W pa it.ps ∧ VsAt W va it.vs
def ItsAt (W : World) (a : Option Addr) (its : List It) : Prop :=
  ∀ i it, its[i]? = some it → ∃ b o cs, a = some ⟨b, o, none⟩ ∧ cs.length = 20 ∧ (∀ j, j < 20 → W.cell? ⟨b, o + i * 20 + j, none⟩ = cs[j]?) ∧ ItAt W cs it
theorem cell_lt {W : World} {b o : Nat} {v : Value} (h : W.cell? ⟨b, o, none⟩ = some v) : b < W.heap.size := by
  by_cases q : b < W.heap.size
  · exact q
  · exfalso
    have e : W.heap[b]? = none := Array.getElem?_eq_none (by omega)
    simp [World.cell?, e] at h
theorem keep_cell {W w : World} (hb : Below W.heap.size W w) {b o : Nat} {v : Value} (h : W.cell? ⟨b, o, none⟩ = some v) : w.cell? ⟨b, o, none⟩ = some v := (hb.cell (p := ⟨b, o, none⟩) (cell_lt h)).trans h
/-- How much of a type there is. -/
structure Am where
  parts : Nat
  words : Nat
  moves : Bool
def Am.plus (a b : Am) : Am := ⟨a.parts + b.parts, a.words + b.words, a.moves || b.moves⟩
def amV (p w : Int) (m : Bool) : Value := .agg #[.int .i64 p, .int .i64 w, .bool m]
abbrev Am.val (a : Am) : Value := amV a.parts a.words a.moves
def itemOf (its : List It) (t : Ty) : Option It := if t.kind = 9 then its.find? (fun it => (it.kind == 2 || it.kind == 3) && it.name.toList == t.name.toList) else none
abbrev Adder := Nat → Ty → Option (Nat × Am)
def sumS (add : Adder) : List Ty → Nat → Am → Option (Nat × Am)
  | [], l, a => some (l, a)
  | t :: ts, l, a => match add l t with
    | none => none
    | some (l', b) => sumS add ts l' (a.plus b)
def enumS (add : Adder) : List (List Ty) → Nat → Nat → Am → Option (Nat × Nat × Am)
  | [], l, most, a => some (l, most, a)
  | v :: vs, l, most, a => match sumS add v l ⟨0, 0, false⟩ with
    | none => none
    | some (l', one) => enumS add vs l' (max most one.words) (a.plus one)
def addS (its : List It) : Nat → Adder
  | 0, _, _ => none
  | _ + 1, 0, _ => none
  | f + 1, l + 1, t =>
    if t.kind = 1 then some (l, ⟨1, 0, false⟩)
    else if 2 ≤ t.kind ∧ t.kind ≤ 8 then some (l, ⟨1, 1, false⟩)
    else if t.kind = 9 then (match itemOf its t with
      | none => none
      | some it => if it.kind = 2 then sumS (addS its f) (it.ps.map Prod.snd) l ⟨1, 0, false⟩ else
        match enumS (addS its f) (it.vs.map Prod.snd) l 0 ⟨1, 0, false⟩ with
        | none => none
        | some (l', most, a) => some (l', ⟨a.parts, most + 1, a.moves⟩))
    else if t.kind < 10 ∨ 13 < t.kind then none
    else match t.el with
      | [] => none
      | e :: _ => if t.kind = 10 then sumS (addS its f) (List.replicate t.n.toNat e) l ⟨1, 0, false⟩ else some (l, ⟨1, 1, decide (t.kind ≠ 12)⟩)
/-- Nothing is counted twice. -/
def Fair (add : Adder) : Prop := ∀ l t l' a, add l t = some (l', a) → l' + a.parts = l ∧ a.words ≤ 2 * a.parts ∧ 1 ≤ a.parts
theorem sumS_fair {add : Adder} (h : Fair add) : ∀ (ts : List Ty) (l : Nat) (a : Am) (l' : Nat) (b : Am), sumS add ts l a = some (l', b) → l' + b.parts = l + a.parts ∧ b.words + 2 * a.parts ≤ a.words + 2 * b.parts ∧ a.parts + ts.length ≤ b.parts
  | [], l, a, l', b, e => by simp only [sumS, Option.some.injEq, Prod.mk.injEq] at e; obtain ⟨rfl, rfl⟩ := e; exact ⟨rfl, Nat.le_refl _, Nat.le_refl _⟩
  | t :: ts, l, a, l', b, e => by
    simp only [sumS] at e
    split at e
    · simp at e
    · rename_i l1 c hc
      obtain ⟨h1, h2, h5⟩ := h _ _ _ _ hc
      obtain ⟨h3, h4, h6⟩ := sumS_fair h ts _ _ _ _ e
      simp only [Am.plus] at h3 h4 h6
      exact ⟨by omega, by omega, by simp; omega⟩
theorem enumS_fair {add : Adder} (h : Fair add) : ∀ (vs : List (List Ty)) (l most : Nat) (a : Am) (l' m' : Nat) (b : Am), enumS add vs l most a = some (l', m', b) → l' + b.parts = l + a.parts ∧ a.parts ≤ b.parts ∧ (m' ≤ most ∨ m' ≤ 2 * (b.parts - a.parts))
  | [], l, most, a, l', m', b, e => by simp only [enumS, Option.some.injEq, Prod.mk.injEq] at e; obtain ⟨rfl, rfl, rfl⟩ := e; exact ⟨rfl, Nat.le_refl _, .inl (Nat.le_refl _)⟩
  | v :: vs, l, most, a, l', m', b, e => by
    simp only [enumS] at e
    split at e
    · simp at e
    · rename_i l1 c hc
      obtain ⟨h1, h2, _⟩ := sumS_fair h v _ _ _ _ hc
      obtain ⟨h3, h4, h5⟩ := enumS_fair h vs _ _ _ _ _ _ e
      simp only [Am.plus] at h1 h2 h3 h4 h5
      refine ⟨by omega, by omega, ?_⟩
      rcases h5 with h5 | h5
      · by_cases q : c.words ≤ most
        · left; omega
        · right; omega
      · right; omega
theorem addS_fair (its : List It) : ∀ f, Fair (addS its f)
  | 0, l, t, l', a, e => by simp [addS] at e
  | f + 1, 0, t, l', a, e => by simp [addS] at e
  | f + 1, l + 1, t, l', a, e => by
    have ih := addS_fair its f
    simp only [addS] at e
    split at e
    · simp only [Option.some.injEq, Prod.mk.injEq] at e; obtain ⟨rfl, rfl⟩ := e; exact ⟨rfl, by simp, Nat.le_refl _⟩
    split at e
    · simp only [Option.some.injEq, Prod.mk.injEq] at e; obtain ⟨rfl, rfl⟩ := e; exact ⟨rfl, by simp, Nat.le_refl _⟩
    split at e
    · split at e
      · simp at e
      split at e
      · obtain ⟨h1, h2, h3⟩ := sumS_fair ih _ _ _ _ _ e
        simp only at h1 h2 h3
        exact ⟨by omega, by omega, by omega⟩
      · split at e
        · simp at e
        · rename_i l1 m1 a1 he
          simp only [Option.some.injEq, Prod.mk.injEq] at e; obtain ⟨rfl, rfl⟩ := e
          obtain ⟨h1, h2, h3⟩ := enumS_fair ih _ _ _ _ _ _ _ he
          simp only at h1 h2 h3 ⊢
          exact ⟨by omega, by omega, by omega⟩
    split at e
    · simp at e
    split at e
    · simp at e
    · split at e
      · obtain ⟨h1, h2, h3⟩ := sumS_fair ih _ _ _ _ _ e
        simp only at h1 h2 h3
        exact ⟨by omega, by omega, by omega⟩
      · simp only [Option.some.injEq, Prod.mk.injEq] at e; obtain ⟨rfl, rfl⟩ := e; exact ⟨rfl, by simp, Nat.le_refl _⟩
end Go.Proofs.Ytioediibbgklcaa.W
