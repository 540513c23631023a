/- Rows of one's own: append, where the row lies, one element taken out, three rows side by side. -/
import Derived.Deep.RegionLawGrows
import Derived.Laws.AppendOwn
import Derived.Laws.OwnMore
import Derived.Test.YtlpdemdakcjjjaaHpF
import Derived.Test.YtlpdemdakcjjjaaHpLM
namespace Go.Proofs.Ytlpdemdakcjjjaa.W
open Go
theorem step_append_own {P : Program} {ops : Array Oper} {o : Oper} {a : Act} {w : World} {K : Act → World → Prop} {Q : Exit → Act → World → Prop} {E : Prop}
    (hg : o.guard = none) (s x : Operand) (t : TypeId) (hop : o.op = Op.call { callee := Callee.builtin Builtin.append, args := #[s, x], argTypes := #[t, t] })
    (base : Nat) (e : TypeId) (i : TypeInfo) (z : Value) (size bytes : Nat) (h1 : P.underlying t = some (.slice e)) (h2 : P.info? e = some i) (h3 : i.zero = some z) (h4 : i.size = size) (h5 : i.bytes = bytes) (h6 : z.cells.size = size) (h7 : 0 < size)
    (v : Value) (n : Nat) (xs : List Value) (hs : a.eval s = v) (hown : w.ownsRow base e size v n xs)
    (ad : Addr) (m c : Nat) (news : List Value) (hx : a.eval x = .slice (some ad) m c) (hn : news.length = m * size) (hc : ∀ j u, news[j]? = some u → w.cell? (ad.add j) = some u) (h1c : ∀ u ∈ news, u.oneCell' = true)
    (b1 : n + m ≤ maxLen) (b2 : (n + m) * bytes ≤ 140737488355328) (hb : base ≤ w.heap.size)
    (hK : ∀ v' w', w'.ownsRow base e size v' (n + m) (xs ++ news) → w.grownBy w' v.ownBlock → K (a.put o.dst v') w') :
    if Region.wanted o (yielded ops a.tmps) = true then Oper.wp P o a w K Q else E := by
  have hw : Region.wanted o (yielded ops a.tmps) = true := by simp [Region.wanted, hg]
  rw [if_pos hw]
  obtain ⟨v', w', hrun, r1, r2, _⟩ := run_append_own (P := P) w base t o.type e i z size bytes h1 h2 h3 h4 h5 h6 h7 v n xs hown ad m c news hn hc h1c b1 b2 hb
  unfold Oper.wp
  simp [execOp, hop, resolve, invoke, builtin, hs, hx, hrun, Result.andThen]
  exact hK v' w' r1 r2
end Go.Proofs.Ytlpdemdakcjjjaa.W
namespace Go.Proofs.Ytlpdemdakcjjjaa.W
open Go
/-- Where a row lies that grew out of another one. -/
def GrewFrom (w : World) (v v' : Value) (n m : Nat) : Prop := (∀ g, v'.ownBlock = some g → v.ownBlock = some g ∨ w.heap.size ≤ g) ∧ (v ≠ .slice none 0 0 ∨ 0 < m → ∃ g cap, v' = .slice (some ⟨g, 0, none⟩) (n + m) cap)
theorem run_append_own2 {P : Program} (w : World) (base : Nat) (t ty e : TypeId) (i : TypeInfo) (z : Value) (size bytes : Nat) (ht : P.underlying t = some (.slice e)) (hi : P.info? e = some i) (hz : i.zero = some z)
    (hsize : i.size = size) (hby : i.bytes = bytes) (hzs : z.cells.size = size) (hsz : 0 < size)
    (v : Value) (n : Nat) (xs : List Value) (hown : w.ownsRow base e size v n xs)
    (a : Addr) (m c : Nat) (news : List Value) (hl : news.length = m * size) (hnews : ∀ j u, news[j]? = some u → w.cell? (a.add j) = some u) (h1 : ∀ u ∈ news, u.oneCell' = true)
    (h63 : n + m ≤ maxLen) (hbytes : (n + m) * bytes ≤ 140737488355328) (hbase : base ≤ w.heap.size) :
    ∃ v' w', (Builtin.append_ #[t, t] ty #[v, .slice (some a) m c]).run P w = .ok v' w' ∧ w'.ownsRow base e size v' (n + m) (xs ++ news) ∧ w.grownBy w' v.ownBlock ∧ GrewFrom w v v' n m := by
  obtain ⟨v', w', hr, r1, r2, r3⟩ := run_append_own (P := P) w base t ty e i z size bytes ht hi hz hsize hby hzs hsz v n xs hown a m c news hl hnews h1 h63 hbytes hbase
  refine ⟨v', w', hr, r1, r2, ?_, ?_⟩
  · intro g hg
    rcases hown.2 with ⟨rfl, rfl⟩ | ⟨g0, cap, cur, rfl, hbg, hgg, hnc, hcm, hcs, htake⟩
    · have hx : xs = [] := List.eq_nil_of_length_eq_zero (by simpa using hown.1)
      subst hx
      obtain ⟨v2, w2, hr2, q1, q2, q3⟩ := run_append_own (P := P) w w.heap.size t ty e i z size bytes ht hi hz hsize hby hzs hsz (.slice none 0 0) 0 [] (World.ownsRow_nil _ _ _ _) a m c news hl hnews h1 h63 hbytes (Nat.le_refl _)
      rw [hr] at hr2
      injection hr2 with e1 e2
      subst e1
      exact .inr ((q1.lt g hg).1)
    · by_cases hroom : n + m ≤ cap
      · obtain ⟨w2, hr2, q1, q2⟩ := run_append_fits (P := P) w base t ty e i size ht hi hsize g0 n cap xs hown a m c news hl hnews h1 hroom
        rw [hr] at hr2
        injection hr2 with e1 e2
        subst e1
        exact .inl hg
      · have holds : ∀ j u, xs[j]? = some u → w.cell? ((⟨g0, 0, none⟩ : Addr).add j) = some u := hown.cells (g := g0) rfl
        subst hsize
        subst hby
        have hsmall : n + m ≤ 9223372036854775807 := by simp only [maxLen] at h63; omega
        have hr2 := run_append_grow (P := P) w t ty e i z ht hi hz ⟨g0, 0, none⟩ n cap xs hown.1 holds a m c news hl hnews (by omega) (by omega) (growslice_fits (by omega) hbytes)
        rw [hr] at hr2
        injection hr2 with e1 e2
        subst e1
        simp [Value.ownBlock] at hg
        exact .inr (by omega)
  · intro hne
    rcases r1.2 with ⟨rfl, hz0⟩ | ⟨g, cap, cur, h, _⟩
    · exfalso
      obtain ⟨rfl, rfl⟩ := r3.1 rfl
      simp at hne
    · exact ⟨g, cap, h⟩
theorem step_append_own2 {P : Program} {ops : Array Oper} {o : Oper} {a : Act} {w : World} {K : Act → World → Prop} {Q : Exit → Act → World → Prop} {E : Prop}
    (hg : o.guard = none) (s x : Operand) (t : TypeId) (hop : o.op = Op.call { callee := Callee.builtin Builtin.append, args := #[s, x], argTypes := #[t, t] })
    (base : Nat) (e : TypeId) (i : TypeInfo) (z : Value) (size bytes : Nat) (h1 : P.underlying t = some (.slice e)) (h2 : P.info? e = some i) (h3 : i.zero = some z) (h4 : i.size = size) (h5 : i.bytes = bytes) (h6 : z.cells.size = size) (h7 : 0 < size)
    (v : Value) (n : Nat) (xs : List Value) (hs : a.eval s = v) (hown : w.ownsRow base e size v n xs)
    (ad : Addr) (m c : Nat) (news : List Value) (hx : a.eval x = .slice (some ad) m c) (hn : news.length = m * size) (hc : ∀ j u, news[j]? = some u → w.cell? (ad.add j) = some u) (h1c : ∀ u ∈ news, u.oneCell' = true)
    (b1 : n + m ≤ maxLen) (b2 : (n + m) * bytes ≤ 140737488355328) (hb : base ≤ w.heap.size)
    (hK : ∀ v' w', w'.ownsRow base e size v' (n + m) (xs ++ news) → w.grownBy w' v.ownBlock → GrewFrom w v v' n m → K (a.put o.dst v') w') :
    if Region.wanted o (yielded ops a.tmps) = true then Oper.wp P o a w K Q else E := by
  have hw : Region.wanted o (yielded ops a.tmps) = true := by simp [Region.wanted, hg]
  rw [if_pos hw]
  obtain ⟨v', w', hrun, r1, r2, r3⟩ := run_append_own2 (P := P) w base t o.type e i z size bytes h1 h2 h3 h4 h5 h6 h7 v n xs hown ad m c news hn hc h1c b1 b2 hb
  unfold Oper.wp
  simp [execOp, hop, resolve, invoke, builtin, hs, hx, hrun, Result.andThen]
  exact hK v' w' r1 r2 r3
theorem wpList_append_own2 {P : Program} {ops : Array Oper} {rest : List Oper} {o : Oper} {a : Act} {w : World} {Q : Exit → Act → World → Prop} (hgd : o.guard = none) (s x : Operand) (t : TypeId)
    (ho : o.op = .call { callee := .builtin .append, args := #[s, x], argTypes := #[t, t] })
    (base : Nat) (e : TypeId) (i : TypeInfo) (z : Value) (size bytes : Nat) (ht : P.underlying t = some (.slice e)) (hi : P.info? e = some i) (hz : i.zero = some z)
    (hsize : i.size = size) (hby : i.bytes = bytes) (hzs : z.cells.size = size) (hsz : 0 < size)
    (v : Value) (n : Nat) (xs : List Value) (hs : a.eval s = v) (hown : w.ownsRow base e size v n xs)
    (ad : Addr) (m c : Nat) (news : List Value) (hx : a.eval x = .slice (some ad) m c) (hl : news.length = m * size) (hnews : ∀ j u, news[j]? = some u → w.cell? (ad.add j) = some u) (h1 : ∀ u ∈ news, u.oneCell' = true)
    (h63 : n + m ≤ maxLen) (hbytes : (n + m) * bytes ≤ 140737488355328) (hbase : base ≤ w.heap.size)
    (h : ∀ v' w', w'.ownsRow base e size v' (n + m) (xs ++ news) → w.grownBy w' v.ownBlock → GrewFrom w v v' n m → wpList P ops Q rest (a.put o.dst v') w') : wpList P ops Q (o :: rest) a w :=
  wpList_plain hgd fun _ hK => by
    obtain ⟨v', w', hr, h2, h3, h4⟩ := run_append_own2 (P := P) w base t o.type e i z size bytes ht hi hz hsize hby hzs hsz v n xs hown ad m c news hl hnews h1 h63 hbytes hbase
    unfold Oper.wp execOp
    simp only [ho, resolve, invoke, builtin, Sem.run_bind, Sem.run_pure, Result.andThen_ok, List.map_toArray, List.map_cons, List.map_nil, hs, hx, hr]
    exact hK _ _ (h v' w' h2 h3 h4)
end Go.Proofs.Ytlpdemdakcjjjaa.W
namespace Go.Proofs.Ytlpdemdakcjjjaa.W
open Go Go.RowKit Go.Proofs Go.Proofs.Ytlpdemdakcjjjaa.Sx
set_option linter.unusedVariables false
set_option linter.unusedSimpArgs false
theorem add_block (g j : Nat) : ((⟨g, 0, none⟩ : Addr).add j).block = g := by unfold Addr.add; split <;> rfl
theorem own_news {W W' : World} {B e s g n cap : Nat} {xs : List Value} (h : W.ownsRow B e s (.slice (some ⟨g, 0, none⟩) n cap) n xs) (hb : W'.heap[g]? = W.heap[g]?) (m : Nat) : ∀ j u, (xs.take m)[j]? = some u → W'.cell? ((⟨g, 0, none⟩ : Addr).add j) = some u := by
  intro j u hj
  rw [List.getElem?_take] at hj
  split at hj
  · have := h.cells (g := g) rfl j u hj
    rw [← this]
    apply World.cell?_of_block
    rw [add_block]; exact hb
  · cases hj
theorem own_tail {W W' : World} {B e s g n cap k : Nat} {xs : List Value} (h : W.ownsRow B e s (.slice (some ⟨g, 0, none⟩) n cap) n xs) (hk : k < n) (hn : n ≤ cap) (hb : W'.heap[g]? = W.heap[g]?) {A : Addr} (hA : (if cap = k + 1 then some (⟨g, 0, none⟩ : Addr) else some ⟨g, (k + 1) * s, none⟩) = some A) :
    ∀ j u, (xs.drop ((k + 1) * s))[j]? = some u → W'.cell? (A.add j) = some u := by
  intro j u hj
  by_cases e : cap = k + 1
  · exfalso
    have : xs.length = n * s := h.1
    have hd : xs.drop ((k + 1) * s) = [] := List.drop_eq_nil_of_le (by rw [this]; exact Nat.mul_le_mul_right _ (by omega))
    rw [hd] at hj; simp at hj
  · rw [if_neg e] at hA
    injection hA with hA
    subst hA
    rw [List.getElem?_drop] at hj
    have := h.cells (g := g) rfl _ u hj
    rw [Addr.add_lit] at this ⊢
    rw [← this]
    simp only [Nat.zero_add]
    exact World.cell?_of_block (w := W) (w' := W') hb
theorem take_len {W : World} {B e s n k : Nat} {v : Value} {xs : List Value} (h : W.ownsRow B e s v n xs) (hk : k < n) : (xs.take (k * s)).length = k * s ∧ (xs.drop ((k + 1) * s)).length = (n - (k + 1)) * s := by
  have := h.1
  have h1 : k * s ≤ n * s := Nat.mul_le_mul_right _ (by omega)
  constructor
  · rw [List.length_take]; omega
  · rw [List.length_drop, this, ← Nat.sub_mul]
theorem own_cap {W : World} {B e s g n cap : Nat} {xs : List Value} (h : W.ownsRow B e s (.slice (some ⟨g, 0, none⟩) n cap) n xs) : n ≤ cap ∧ g < W.heap.size ∧ B ≤ g := by
  rcases h.2 with ⟨q, _⟩ | ⟨g', cap', cur, q, q0, q1, q2, _⟩
  · cases q
  · injection q with q4 q5 q6
    injection q4 with q4; injection q4 with q4 _ _
    subst q4
    exact ⟨by omega, (Array.getElem?_eq_some_iff.1 q1).1, q0⟩
theorem own_any {W : World} {B e s n : Nat} {v : Value} {xs : List Value} (h : W.ownsRow B e s v n xs) (hn : 0 < n) : ∃ g cap, v = .slice (some ⟨g, 0, none⟩) n cap := by
  rcases h.2 with ⟨_, h⟩ | ⟨g, cap, cur, h, _⟩
  · omega
  · exact ⟨g, cap, h⟩
theorem own_one {xs : List Value} (h : ∀ u ∈ xs, u.oneCell' = true) (m : Nat) : (∀ u ∈ xs.take m, u.oneCell' = true) ∧ (∀ u ∈ xs.drop m, u.oneCell' = true) :=
  ⟨fun u hu => h u (List.mem_of_mem_take hu), fun u hu => h u (List.mem_of_mem_drop hu)⟩
/-- The empty row that was made first. -/
theorem own_empty (W : World) (e s : Nat) : (W.alloc (.cells #[] e)).ownsRow W.heap.size e s (.slice (some ⟨W.heap.size, 0, none⟩) 0 0) 0 [] :=
  World.ownsRow_made W #[] 0 (Nat.le_refl _) (by unfold maxLen; omega) (by simp)
/-- What the two appends leave: a row in new blocks, all else as it was. -/
theorem own_out {W w4 w5 : World} {e s n k : Nat} {v1 v2 : Value} {ys zs : List Value} (hk : k < n) (g0 : (W.alloc (.cells #[] e)).drew.grownBy w4 (Value.slice (some ⟨W.heap.size, 0, none⟩) 0 0).ownBlock)
    (o1 : w4.ownsRow W.heap.size e s v1 (0 + k) ([] ++ ys)) (g2 : w4.grownBy w5 v1.ownBlock) (o2 : w5.ownsRow W.heap.size e s v2 (0 + k + (n - (k + 1))) ([] ++ ys ++ zs)) :
    Below W.heap.size W w5 ∧ w5.ownsRow W.heap.size e s v2 (n - 1) (ys ++ zs) := by
  have g1 : (W.alloc (.cells #[] e)).grownBy w4 (Value.slice (some ⟨W.heap.size, 0, none⟩) 0 0).ownBlock := ⟨g0.os, g0.tape, g0.output, g0.size, g0.block⟩
  constructor
  · have s4 : W.heap.size + 1 ≤ w4.heap.size := by have := g1.size; simpa using this
    exact ((((Below.refl _ W).alloc (Nat.le_refl _) _).grown g1 (by simp) (fun g hg => by simp [Value.ownBlock] at hg; omega)).grown g2 (by omega) (fun g hg => (o1.lt g hg).1))
  · have e : 0 + k + (n - (k + 1)) = n - 1 := by omega
    rw [e] at o2
    simpa using o2
theorem own_base {W : World} {B B' e s n : Nat} {v : Value} {xs : List Value} (h : W.ownsRow B' e s v n xs) (hB : B ≤ B') : W.ownsRow B e s v n xs :=
  ⟨h.1, h.2.imp id fun ⟨g, cap, cur, a, b, c⟩ => ⟨g, cap, cur, a, Nat.le_trans hB b, c⟩⟩
end Go.Proofs.Ytlpdemdakcjjjaa.W
namespace Go.Proofs.Ytlpdemdakcjjjaa.W
open Go Go.RowKit Go.Proofs Go.Proofs.Ytlpdemdakcjjjaa.Sx
set_option linter.unusedVariables false
set_option linter.unusedSimpArgs false
def atL (L : List (Nat × Nat)) : List Value := L.map fun p => .int .i64 (adr p.1 p.2)
def loL (L : List (Nat × Nat)) : List Value := L.map fun p => .int .i64 (szc p.1)
def clL (L : List (Nat × Nat)) : List Value := L.map fun p => .int .i64 (p.1 : Int)
/-- Two rows do not lie in one block. -/
def Apart2 (v v' : Value) : Prop := ∀ g, v.ownBlock = some g → v'.ownBlock ≠ some g
structure Tri (B : Nat) (W : World) (a l c : Value) (L : List (Nat × Nat)) : Prop where
  ra : W.ownsRow B 3 1 a L.length (atL L)
  rl : W.ownsRow B 3 1 l L.length (loL L)
  rc : W.ownsRow B 3 1 c L.length (clL L)
  al : Apart2 a l
  ac : Apart2 a c
  lc : Apart2 l c
theorem own_keep {W W' : World} {B e s n : Nat} {v : Value} {xs : List Value} (h : W.ownsRow B e s v n xs) (hk : ∀ g, B ≤ g → g < W.heap.size → v.ownBlock = some g → W'.heap[g]? = W.heap[g]?) : W'.ownsRow B e s v n xs := by
  refine ⟨h.1, ?_⟩
  rcases h.2 with hn | ⟨g, cap, cur, rfl, hb, hgg, rest⟩
  · exact .inl hn
  · refine .inr ⟨g, cap, cur, rfl, hb, ?_, rest⟩
    rw [hk g hb (Array.getElem?_eq_some_iff.1 hgg).1 (by simp [Value.ownBlock])]
    exact hgg
theorem Tri.keep {B : Nat} {W W' : World} {a l c : Value} {L : List (Nat × Nat)} (h : Tri B W a l c L) (hk : ∀ g, B ≤ g → g < W.heap.size → W'.heap[g]? = W.heap[g]?) : Tri B W' a l c L :=
  ⟨own_keep h.ra fun g h1 h2 _ => hk g h1 h2, own_keep h.rl fun g h1 h2 _ => hk g h1 h2, own_keep h.rc fun g h1 h2 _ => hk g h1 h2, h.al, h.ac, h.lc⟩
theorem Tri.below {B : Nat} {W W' : World} {a l c : Value} {L : List (Nat × Nat)} (h : Tri B W a l c L) (hb : Below W.heap.size W W') : Tri B W' a l c L := h.keep fun g _ h2 => hb.block g h2
theorem Tri.fr {B b : Nat} {W W' : World} {a l c : Value} {L : List (Nat × Nat)} (h : Tri B W a l c L) (hf : Fr b W W') (hb : b < B) : Tri B W' a l c L := h.keep fun g h1 h2 => hf.block g h2 (by omega)
/-- What one append does. -/
structure App (B : Nat) (W W' : World) (v v' : Value) (n : Nat) (ys : List Value) : Prop where
  own : W'.ownsRow B 3 1 v' n ys
  grow : W.grownBy W' v.ownBlock
  from' : ∀ g, v'.ownBlock = some g → v.ownBlock = some g ∨ W.heap.size ≤ g
theorem tri_push {B : Nat} {W w1 w2 w3 : World} {a l c a' l' c' : Value} {L : List (Nat × Nat)} {X1 X2 X3 : Obj} {p : Nat × Nat} (h : Tri B W a l c L) (hB : B ≤ W.heap.size)
    (o1 : w1.ownsRow B 3 1 a' (L.length + 1) (atL L ++ [.int .i64 (adr p.1 p.2)])) (g1 : (W.alloc X1).grownBy w1 a.ownBlock) (f1 : GrewFrom (W.alloc X1) a a' L.length 1)
    (o2 : w2.ownsRow B 3 1 l' (L.length + 1) (loL L ++ [.int .i64 (szc p.1)])) (g2 : (w1.alloc X2).grownBy w2 l.ownBlock) (f2 : GrewFrom (w1.alloc X2) l l' L.length 1)
    (o3 : w3.ownsRow B 3 1 c' (L.length + 1) (clL L ++ [.int .i64 p.1])) (g3 : (w2.alloc X3).grownBy w3 c.ownBlock) (f3 : GrewFrom (w2.alloc X3) c c' L.length 1) :
    Tri B w3 a' l' c' (L ++ [p]) ∧ W.heap.size ≤ w3.heap.size ∧ (∀ g, g < B → w3.heap[g]? = W.heap[g]?) ∧ (w3.os = W.os ∧ w3.tape = W.tape ∧ w3.output = W.output) := by
  have s1 : W.heap.size + 1 ≤ w1.heap.size := by have := g1.size; simpa using this
  have s2 : w1.heap.size + 1 ≤ w2.heap.size := by have := g2.size; simpa using this
  have s3 : w2.heap.size + 1 ≤ w3.heap.size := by have := g3.size; simpa using this
  have la := h.ra.lt
  have ll := h.rl.lt
  have lc := h.rc.lt
  have b1 : ∀ g, g < W.heap.size → a.ownBlock ≠ some g → w1.heap[g]? = W.heap[g]? := fun g hg hn => (g1.block g (by simp; omega) (fun e => hn e.symm)).trans (Below.heap_alloc W X1 g hg)
  have b2 : ∀ g, g < w1.heap.size → l.ownBlock ≠ some g → w2.heap[g]? = w1.heap[g]? := fun g hg hn => (g2.block g (by simp; omega) (fun e => hn e.symm)).trans (Below.heap_alloc w1 X2 g hg)
  have b3 : ∀ g, g < w2.heap.size → c.ownBlock ≠ some g → w3.heap[g]? = w2.heap[g]? := fun g hg hn => (g3.block g (by simp; omega) (fun e => hn e.symm)).trans (Below.heap_alloc w2 X3 g hg)
  have na : ∀ g, a'.ownBlock = some g → l.ownBlock ≠ some g ∧ c.ownBlock ≠ some g ∧ g < w1.heap.size := fun g hg => by
    have q := (o1.lt g hg).2
    rcases f1.1 g hg with e | e
    · exact ⟨h.al g e, h.ac g e, q⟩
    · simp at e
      exact ⟨fun e2 => by have := (ll g e2).2; omega, fun e2 => by have := (lc g e2).2; omega, q⟩
  have nl : ∀ g, l'.ownBlock = some g → c.ownBlock ≠ some g ∧ g < w2.heap.size := fun g hg => by
    have q := (o2.lt g hg).2
    rcases f2.1 g hg with e | e
    · exact ⟨h.lc g e, q⟩
    · simp at e
      exact ⟨fun e2 => by have := (lc g e2).2; omega, q⟩
  refine ⟨⟨?_, ?_, ?_, ?_, ?_, ?_⟩, by omega, ?_, ?_⟩
  · have : atL (L ++ [p]) = atL L ++ [.int .i64 (adr p.1 p.2)] := by simp [atL]
    rw [this, List.length_append]
    exact own_keep o1 fun g h1 h2 h3 => by
      obtain ⟨q1, q2, q3⟩ := na g h3
      rw [b3 g (by omega) q2, b2 g q3 q1]
  · have : loL (L ++ [p]) = loL L ++ [.int .i64 (szc p.1)] := by simp [loL]
    rw [this, List.length_append]
    exact own_keep o2 fun g h1 h2 h3 => by
      obtain ⟨q1, q2⟩ := nl g h3
      rw [b3 g q2 q1]
  · have : clL (L ++ [p]) = clL L ++ [.int .i64 (p.1 : Int)] := by simp [clL]
    rw [this, List.length_append]
    exact o3
  · intro g hg hg2
    obtain ⟨q1, q2, q3⟩ := na g hg
    rcases f2.1 g hg2 with e | e
    · exact q1 e
    · simp at e; omega
  · intro g hg hg2
    obtain ⟨q1, q2, q3⟩ := na g hg
    rcases f3.1 g hg2 with e | e
    · exact q2 e
    · simp at e; omega
  · intro g hg hg2
    obtain ⟨q1, q2⟩ := nl g hg
    rcases f3.1 g hg2 with e | e
    · exact q1 e
    · simp at e; omega
  · intro g hg
    rw [b3 g (by omega) (fun e => by have := (lc g e).1; omega), b2 g (by omega) (fun e => by have := (ll g e).1; omega), b1 g (by omega) (fun e => by have := (la g e).1; omega)]
  · exact ⟨g3.os.trans (g2.os.trans g1.os), g3.tape.trans (g2.tape.trans g1.tape), g3.output.trans (g2.output.trans g1.output)⟩
/-- One block is taken out of all three rows. -/
theorem tri_cut {B k : Nat} {W w1 w2 w3 : World} {a l c a' l' c' : Value} {L : List (Nat × Nat)} (h : Tri B W a l c L) (hk : k < L.length) (hB : B ≤ W.heap.size)
    (b1 : Below W.heap.size W w1) (o1 : w1.ownsRow W.heap.size 3 1 a' (L.length - 1) ((atL L).take (k * 1) ++ (atL L).drop ((k + 1) * 1)))
    (b2 : Below w1.heap.size w1 w2) (o2 : w2.ownsRow w1.heap.size 3 1 l' (L.length - 1) ((loL L).take (k * 1) ++ (loL L).drop ((k + 1) * 1)))
    (b3 : Below w2.heap.size w2 w3) (o3 : w3.ownsRow w2.heap.size 3 1 c' (L.length - 1) ((clL L).take (k * 1) ++ (clL L).drop ((k + 1) * 1))) :
    Tri B w3 a' l' c' (L.take k ++ L.drop (k + 1)) ∧ Below W.heap.size W w3 := by
  have s1 := b1.size
  have s2 := b2.size
  have hlen : (L.take k ++ L.drop (k + 1)).length = L.length - 1 := by simp; omega
  refine ⟨⟨?_, ?_, ?_, ?_, ?_, ?_⟩, (b1.trans (b2.mono s1)).trans (b3.mono (by omega))⟩
  · rw [hlen]
    have : atL (L.take k ++ L.drop (k + 1)) = (atL L).take (k * 1) ++ (atL L).drop ((k + 1) * 1) := by simp [atL, List.map_take, List.map_drop]
    rw [this]
    exact own_base (own_keep o1 fun g h1 h2 _ => (b3.block g (by omega)).trans (b2.block g h2)) hB
  · rw [hlen]
    have : loL (L.take k ++ L.drop (k + 1)) = (loL L).take (k * 1) ++ (loL L).drop ((k + 1) * 1) := by simp [loL, List.map_take, List.map_drop]
    rw [this]
    exact own_base (own_keep o2 fun g h1 h2 _ => b3.block g h2) (by omega)
  · rw [hlen]
    have : clL (L.take k ++ L.drop (k + 1)) = (clL L).take (k * 1) ++ (clL L).drop ((k + 1) * 1) := by simp [clL, List.map_take, List.map_drop]
    rw [this]
    exact own_base o3 (by omega)
  · intro g hg hg2
    have := (o1.lt g hg).2
    have := (o2.lt g hg2).1
    omega
  · intro g hg hg2
    have := (o1.lt g hg).2
    have := (o3.lt g hg2).1
    omega
  · intro g hg hg2
    have := (o2.lt g hg).2
    have := (o3.lt g hg2).1
    omega
end Go.Proofs.Ytlpdemdakcjjjaa.W
