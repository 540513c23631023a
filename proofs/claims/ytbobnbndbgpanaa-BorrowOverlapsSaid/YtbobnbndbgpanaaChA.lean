/- A tree that came in, as a chain of first kids. -/
import Derived.Test.YtbobnbndbgpanaaProg
import Derived.WalkKit
import Derived.Below
import Derived.ProofKit
import Derived.OpenShut
import Derived.ChangeSlices
import Derived.Deep.Slices
namespace Go.Proofs.Ytbobnbndbgpanaa.W
open Go Go.RowKit Go.Proofs Go.ChangeShapes Go.WideShapes Go.ChangeAt Go.Deep
set_option linter.unusedVariables false
theorem cells3 : Try.prog.cellsOf 3 = 1 := by kernel_rfl
theorem cells9 : Try.prog.cellsOf 9 = 1 := by kernel_rfl
theorem cells22 : Try.prog.cellsOf 22 = 1 := by kernel_rfl
theorem cells27 : Try.prog.cellsOf 27 = 10 := by kernel_rfl
/-- A tree of the chain: its kind and number, how many kids it has, of the second one the kind and the number. -/
structure Nd where
  kind : Int
  num : Int
  kids : Nat
  k1 : Int
  n1 : Int
/-- What else a tree holds. -/
structure Tl where
  x1 : Int
  s3 : ByteArray
  a5 : Option Addr
  n5 : Nat
  k5 : Nat
  x6 : Int
  s7 : ByteArray
  x8 : Int
  a9 : Option Addr
  n9 : Nat
  k9 : Nat
inductive Ch (W : World) : List Value → List Nd → Prop
  | last (kd nm : Int) (t : Tl) (ko : Option Addr) (kc : Nat) : Ch W [.int .i64 kd, .int .i64 t.x1, .int .i64 nm, .string t.s3, .slice ko 0 kc, .slice t.a5 t.n5 t.k5, .int .i64 t.x6, .string t.s7, .int .i64 t.x8, .slice t.a9 t.n9 t.k9] [⟨kd, nm, 0, 0, 0⟩]
  | more (kd nm : Int) (t : Tl) (b o nk kc : Nat) (k1 n1 : Int) (cs : List Value) (rest : List Nd)
      (hlen : cs.length = 10) (hc : ∀ i, i < 10 → W.cell? ⟨b, o + i, none⟩ = cs[i]?) (h2 : 0 < nk → W.cell? ⟨b, o + 10, none⟩ = some (.int .i64 k1) ∧ W.cell? ⟨b, o + 10 + 2, none⟩ = some (.int .i64 n1)) (hn : nk + 1 ≤ 9223372036854775807) (h : Ch W cs rest) :
      Ch W [.int .i64 kd, .int .i64 t.x1, .int .i64 nm, .string t.s3, .slice (some ⟨b, o, none⟩) (nk + 1) kc, .slice t.a5 t.n5 t.k5, .int .i64 t.x6, .string t.s7, .int .i64 t.x8, .slice t.a9 t.n9 t.k9] (⟨kd, nm, nk + 1, k1, n1⟩ :: rest)
section
variable {H : Type} {enc : TypeId × Value → H} {W : World}
theorem spot_none {a : Addr} {v : Value} (h : W.cell? (a.add 0) = some v) : ∃ b o, a = ⟨b, o, none⟩ := by
  obtain ⟨b, o, spot⟩ := a
  have hspot : spot = none := by simpa [Addr.add] using World.cell?_spot h
  subst hspot
  exact ⟨b, o, rfl⟩
theorem cells23 : Try.prog.cellsOf 23 = 1 := by kernel_rfl
theorem cells25 : Try.prog.cellsOf 25 = 4 := by kernel_rfl
theorem slice_form {t e : TypeId} (ht : Try.prog.underlying t = some (.slice e)) {fuel : Nat} {c : Value} {x : DataW H × List MemPlace} (h : DataW.trod enc Try.prog W 0 (fun _ => true) true fuel t [c] = some x) : ∃ a n k, c = .slice a n k := by
  rcases DataW.trod_slice ht h with ⟨hcs, _⟩ | ⟨a, len, cap, _, _, n, _, hcs, _⟩
  · simp at hcs; exact ⟨_, _, _, hcs⟩
  · simp at hcs; exact ⟨_, _, _, hcs⟩
theorem type_cells {fuel : Nat} {c0 c1 c2 c3 : Value} {x : DataW H × List MemPlace} (h : DataW.trod enc Try.prog W 0 (fun _ => true) true fuel 25 [c0, c1, c2, c3] = some x) : ∃ x6 s7 x8 a9 n9 k9, c0 = .int .i64 x6 ∧ c1 = .string s7 ∧ c2 = .int .i64 x8 ∧ c3 = .slice a9 n9 k9 := by
  obtain ⟨xs, k, rfl, hxy, _, hxl, hf⟩ := DataW.trod_struct Try.underlying25 h
  have hxl4 : xs.length = 4 := hxl
  match xs, hxl4 with
  | [y0, y1, y2, y3], _ =>
    have g0 := hf 0 _ rfl
    have g1 := hf 1 _ rfl
    have g2 := hf 2 _ rfl
    have g3 := hf 3 _ rfl
    simp [cells3, cells9, cells23] at g0 g1 g2 g3
    obtain ⟨a, e0, _⟩ := DataW.trod_int Try.underlying3 g0
    obtain ⟨b, e1, _⟩ := DataW.trod_string Try.underlying9 g1
    obtain ⟨c, e2, _⟩ := DataW.trod_int Try.underlying3 g2
    obtain ⟨d, n, k2, e3⟩ := slice_form Try.underlying23 g3
    simp at e0 e1 e2
    exact ⟨a, b, c, d, n, k2, e0, e1, e2, e3⟩
theorem expr_fields {fuel : Nat} {cs : List Value} {x : DataW H × List MemPlace} (hlen : cs.length = 10) (h : DataW.trod enc Try.prog W 0 (fun _ => true) true fuel 27 cs = some x) :
    ∃ k kd nm, ∃ t : Tl, ∃ c4 y, fuel = k + 1 ∧ cs = [.int .i64 kd, .int .i64 t.x1, .int .i64 nm, .string t.s3, c4, .slice t.a5 t.n5 t.k5, .int .i64 t.x6, .string t.s7, .int .i64 t.x8, .slice t.a9 t.n9 t.k9] ∧ DataW.trod enc Try.prog W 0 (fun _ => true) true k 22 [c4] = some y := by
  obtain ⟨xs, k, rfl, hxy, _, hxl, hf⟩ := DataW.trod_struct Try.underlying27 h
  have hxl7 : xs.length = 7 := hxl
  match xs, hxl7, cs, hlen with
  | [y0, y1, y2, y3, y4, y5, y6], _, [c0, c1, c2, c3, c4, c5, c6, c7, c8, c9], _ =>
    have g0 := hf 0 _ rfl
    have g1 := hf 1 _ rfl
    have g2 := hf 2 _ rfl
    have g3 := hf 3 _ rfl
    have g4 := hf 4 _ rfl
    have g5 := hf 5 _ rfl
    have g6 := hf 6 _ rfl
    simp [cells3, cells9, cells22, cells23, cells25] at g0 g1 g2 g3 g4 g5 g6
    obtain ⟨a, e0, _⟩ := DataW.trod_int Try.underlying3 g0
    obtain ⟨x1, e1, _⟩ := DataW.trod_int Try.underlying3 g1
    obtain ⟨b, e2, _⟩ := DataW.trod_int Try.underlying3 g2
    obtain ⟨s3, e3, _⟩ := DataW.trod_string Try.underlying9 g3
    obtain ⟨a5, n5, k5, e5⟩ := slice_form Try.underlying23 g5
    obtain ⟨x6, s7, x8, a9, n9, k9, rfl, rfl, rfl, rfl⟩ := type_cells g6
    simp at e0 e1 e2 e3
    subst e0 e1 e2 e3 e5
    exact ⟨k, a, b, ⟨x1, s3, a5, n5, k5, x6, s7, x8, a9, n9, k9⟩, c4, _, rfl, rfl, g4⟩
theorem chain_of : ∀ (fuel : Nat) (cs : List Value) (x : DataW H × List MemPlace), cs.length = 10 → DataW.trod enc Try.prog W 0 (fun _ => true) true fuel 27 cs = some x → ∃ l, Ch W cs l := by
  intro fuel
  induction fuel using Nat.strongRecOn with
  | _ fuel ih =>
    intro cs x hlen h
    obtain ⟨k, kd, nm, t, c4, y, rfl, rfl, h4⟩ := expr_fields hlen h
    rcases DataW.trod_slice Try.underlying22 h4 with ⟨hcs, _⟩ | ⟨a, len, cap, elems, rest, n, rfl, hcs, _, _, hl, hmx, hlen2, hel, _, _⟩
    · simp at hcs
      subst hcs
      exact ⟨_, .last kd nm t none 0⟩
    · simp at hcs
      subst hcs
      have hmx' : cap ≤ 9223372036854775807 := by unfold maxLen at hmx; omega
      match len, hlen2, hel, hl with
      | 0, _, _, _ => exact ⟨_, .last kd nm t (some a) cap⟩
      | nk + 1, hlen2, hel, hl =>
        have e0 := hel 0 (by omega)
        rw [List.getElem?_eq_getElem (by omega), cells27] at e0
        obtain ⟨cs0, q1, q2⟩ := Option.bind_eq_some_iff.1 e0
        obtain ⟨_, hl0, hc0⟩ := World.cells?_some q1
        obtain ⟨l, hch⟩ := ih n (by omega) cs0 _ hl0 q2
        have hz : ∃ v, W.cell? (a.add 0) = some v := by
          have := hc0 0 (by omega)
          rw [add_add] at this
          exact ⟨cs0[0], by rw [List.getElem?_eq_getElem (by omega)] at this; simpa using this⟩
        obtain ⟨v, hv⟩ := hz
        obtain ⟨b, o, rfl⟩ := spot_none hv
        have hc : ∀ i, i < 10 → W.cell? ⟨b, o + i, none⟩ = cs0[i]? := fun i hi => by
          have := hc0 i hi
          rw [add_add, Addr.add_lit] at this
          simpa using this
        rcases Nat.eq_zero_or_pos nk with hz | hp
        · subst hz
          exact ⟨_, .more kd nm t b o 0 cap 0 0 cs0 l hl0 hc (fun h => absurd h (by omega)) (by omega) hch⟩
        · have e1 := hel 1 (by omega)
          rw [List.getElem?_eq_getElem (by omega), cells27] at e1
          obtain ⟨cs1, r1, r2⟩ := Option.bind_eq_some_iff.1 e1
          obtain ⟨_, hl1, hc1⟩ := World.cells?_some r1
          obtain ⟨_, k1, n1, _, _, _, _, rfl, _⟩ := expr_fields hl1 r2
          have z0 := hc1 0 (by omega)
          have z2 := hc1 2 (by omega)
          rw [add_add, Addr.add_lit] at z0 z2
          exact ⟨_, .more kd nm t b o nk cap k1 n1 cs0 l hl0 hc (fun _ => ⟨by simpa using z0, by rw [Nat.add_assoc]; simpa using z2⟩) (by omega) hch⟩
end
end Go.Proofs.Ytbobnbndbgpanaa.W
