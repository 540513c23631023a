/- An append of a row of one's own to another one. -/
import Derived.Test.YtbobnbndbgpanaaChC
namespace Go.Proofs.Ytbobnbndbgpanaa.W
open Go Go.RowKit Go.Proofs
set_option linter.unusedVariables false
set_option linter.unusedSimpArgs false
theorem run_append_nilx {P : Program} (w : World) (t ty e : TypeId) (i : TypeInfo) (ht : P.underlying t = some (.slice e)) (hi : P.info? e = some i) (b : Addr) (n cap : Nat) (hn : n ≤ cap) :
    (Builtin.append_ #[t, t] ty #[.slice (some b) n cap, .slice none 0 0]).run P w = .ok (.slice (some b) n cap) w := by
  simp [Builtin.append_, run_underlying ht, sizeOf, typeInfo, hi, Builtin.lenOf, hn, run_firstCells_none, storeCells]
theorem step_append_row {P : Program} {ops : Array Oper} {o : Oper} {a : Act} {w : World} {K : Act → World → Prop} {Q : Exit → Act → World → Prop} {E : Prop}
    (hg : o.guard = none) (s x : Operand) (t : TypeId) (hop : o.op = Op.call { callee := Callee.builtin Builtin.append, args := #[s, x], argTypes := #[t, t] })
    (base : Nat) (e : TypeId) (i : TypeInfo) (z : Value) (size bytes : Nat) (h1 : P.underlying t = some (.slice e)) (h2 : P.info? e = some i) (h3 : i.zero = some z) (h4 : i.size = size) (h5 : i.bytes = bytes) (h6 : z.cells.size = size) (h7 : 0 < size)
    (g n cap : Nat) (xs : List Value) (hs : a.eval s = .slice (some ⟨g, 0, none⟩) n cap) (hown : w.ownsRow base e size (.slice (some ⟨g, 0, none⟩) n cap) n xs)
    (B : Nat) (v : Value) (m : Nat) (news : List Value) (hx : a.eval x = v) (hv : w.ownsRow B e size v m news) (h1c : ∀ u ∈ news, u.oneCell' = true)
    (b1 : n + m ≤ maxLen) (b2 : (n + m) * bytes ≤ 140737488355328) (hb : base ≤ w.heap.size)
    (hK : ∀ v' w', w'.ownsRow base e size v' (n + m) (xs ++ news) → w.grownBy w' (some g) → K (a.put o.dst v') w') :
    if Region.wanted o (yielded ops a.tmps) = true then Oper.wp P o a w K Q else E := by
  rcases own_form2 hv with ⟨rfl, rfl⟩ | ⟨g', cap', rfl, _, _, _⟩
  · have hw : Region.wanted o (yielded ops a.tmps) = true := by simp [Region.wanted, hg]
    rw [if_pos hw]
    have hnil : news = [] := List.eq_nil_of_length_eq_zero (by simpa using hv.1)
    subst hnil
    have hc : n ≤ cap := by
      rcases hown.2 with ⟨q, _⟩ | ⟨g', cap', cur, q, q0, q1, q2, _⟩
      · cases q
      · injection q with q4 q5 q6; omega
    have hrun := run_append_nilx (P := P) w t o.type e i h1 h2 ⟨g, 0, none⟩ n cap hc
    unfold Oper.wp
    simp [execOp, hop, resolve, invoke, builtin, hs, hx, hrun, Result.andThen]
    exact hK _ w (by simpa using hown) ⟨rfl, rfl, rfl, Nat.le_refl _, fun _ _ _ => rfl⟩
  · exact step_append_own2 hg s x t hop base e i z size bytes h1 h2 h3 h4 h5 h6 h7 _ n xs hs hown ⟨g', 0, none⟩ m cap' news hx hv.1 (fun j u hj => hv.cells (g := g') rfl j u hj) h1c b1 b2 hb (fun v' w' q1 q2 _ => hK v' w' q1 q2)
theorem Ch.keep {W w : World} {cs : List Value} {l : List Nd} (h : Ch W cs l) (hb : Below W.heap.size W w) : Ch w cs l := by
  induction h with
  | last kd nm t ko kc => exact .last kd nm t ko kc
  | more kd nm t b o nk kc k1 n1 cs rest hlen hc h2 hn h ih =>
    have lt := cell_lt ((hc 0 (by omega)).trans (List.getElem?_eq_getElem (by omega)))
    exact .more kd nm t b o nk kc k1 n1 cs rest hlen (fun i hi => (hb.cell (p := ⟨b, o + i, none⟩) lt).trans (hc i hi)) (fun h => ⟨(hb.cell (p := ⟨b, o + 10, none⟩) lt).trans (h2 h).1, (hb.cell (p := ⟨b, o + 10 + 2, none⟩) lt).trans (h2 h).2⟩) hn ih
theorem own_empty (W : World) (e s : Nat) : (W.alloc (.cells #[] e)).ownsRow W.heap.size e s (.slice (some ⟨W.heap.size, 0, none⟩) 0 0) 0 [] :=
  World.ownsRow_made W #[] 0 (Nat.le_refl _) (by unfold maxLen; omega) (by simp)
theorem InBox.keep {W wx wy : World} {fb : Nat} {cs : List Value} (h : InBox W fb cs wx) (hb : Below wx.heap.size wx wy) : InBox W fb cs wy :=
  ⟨(hb.block fb (Array.getElem?_eq_some_iff.1 h.at').1).trans h.at', h.bel.trans (hb.mono h.bel.size), h.ge⟩
theorem own_base {W : World} {B B' e s n : Nat} {v : Value} {xs : List Value} (h : W.ownsRow B' e s v n xs) (hB : B ≤ B') : W.ownsRow B e s v n xs :=
  ⟨h.1, h.2.imp id fun ⟨g, cap, cur, a, b, c⟩ => ⟨g, cap, cur, a, Nat.le_trans hB b, c⟩⟩
theorem info39 : (Try.prog.info? 39).map (fun i => (i.zero, i.size, i.bytes)) = some (some (.agg #[.int .i64 0, .int .i64 0]), 2, 16) := by kernel_rfl
end Go.Proofs.Ytbobnbndbgpanaa.W
