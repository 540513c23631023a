/- The executor's operations on slices: appending, making, copying. -/
import Derived.Test.YtbobnbndbgpanaaGreatSzSlice
import Derived.Deep.AppendSrc
import Derived.Laws.MakeOwn
namespace Go.Proofs.YtbobnbndbgpanaaGreat.Sx
open Go
set_option linter.unusedVariables false
set_option linter.unusedSimpArgs false
noncomputable section

section
variable {η : Env} {φ : Place} {W : World} {P : Program}

/-! ### What is appended -/
def byteV (l : List UInt8) : List V := l.map fun b => .int .u8 (.lit b.toNat)
def srcV (st : St) (sz : Nat) (isStr : Bool) : V → Option (Nat × List V)
  | .slice none 0 _ _ => if isStr then none else some (0, [])
  | .slice (some (k, o)) n _ _ => if isStr then none else match st.cells k with
    | some cs => if o + n * sz ≤ cs.len then some (n, cs.sub o (n * sz)) else none
    | none => none
  | .sliceE => if isStr then none else some (0, [])
  | .str (.lit l) => if isStr && sz == 1 then some (l.length, byteV l) else none
  | _ => none
theorem VRs.allOne : ∀ {l : List V} {l' : List Value}, VRs η φ l l' → l.all V.one = true → ∀ v ∈ l', v.oneCell' = true
  | _, _, .nil, _ => by simp
  | _, _, .cons v v' l l' h t, ho => by
    simp only [List.all_cons, Bool.and_eq_true] at ho
    intro u hu
    rcases List.mem_cons.1 hu with rfl | hu
    · exact h.one ho.1
    · exact VRs.allOne t ho.2 u hu
theorem byteV_vr (l : List UInt8) : VRs η φ (byteV l) (l.map fun b => Value.int .u8 b.toNat) := by
  induction l with
  | nil => exact .nil
  | cons b l ih => exact .cons _ _ _ _ (.int .u8 (.lit b.toNat)) ih
theorem SR.range {st : St} (hs : SR η φ st W) {k o m b : Nat} {s : Nat × Nat} {cs : Arr} (hφ : φ k = some (b, s)) (hc : st.cells k = some cs) (hm : o + m ≤ cs.toList.length) :
    ∃ vs, VRs η φ ((cs.toList.drop o).take m) vs ∧ vs.length = m ∧ ∀ j u, vs[j]? = some u → W.cell? ((⟨b, s.1 + o, none⟩ : Addr).add j) = some u := by
  obtain ⟨b', s', pre, mid, post, ty, h1, h2, h3, h4⟩ := hs.cells hc
  rw [hφ] at h1; injection h1 with h1; injection h1 with hb hs'; subst hb; subst hs'
  have hl := h4.length
  refine ⟨(mid.drop o).take m, (h4.drop o).take m, by simp; omega, ?_⟩
  intro j v hv
  have hj : j < m := by
    have := (List.getElem?_eq_some_iff.1 hv).1; simp at this; omega
  rw [List.getElem?_take, if_pos hj, List.getElem?_drop] at hv
  have hadd : (⟨b, s.1 + o, none⟩ : Addr).add j = ⟨b, s.1 + o + j, none⟩ := by unfold Addr.add; split <;> simp_all
  rw [hadd]
  have hi : o + j < mid.length := (List.getElem?_eq_some_iff.1 hv).1
  simp only [World.cell?, h2, Option.isSome_none, Bool.false_eq_true, if_false, List.getElem?_toArray]
  rw [List.getElem?_append_left (by simp; omega), List.getElem?_append_right (by omega)]
  rw [show s.1 + o + j - pre.length = o + j by omega]
  exact hv
theorem srcV_ok {st : St} (hs : SR η φ st W) {sz n : Nat} {isStr : Bool} {x : V} {x' : Value} {vs : List V} {tx : TypeId} (hx : VR η φ x x') (h : srcV st sz isStr x = some (n, vs)) (ho : vs.all V.one = true)
    (hk : if isStr then P.underlying tx = some .string else ∃ e, P.underlying tx = some (.slice e)) : ∃ vs', VRs η φ vs vs' ∧ Src P sz tx x' n vs' W := by
  unfold srcV at h
  split at h
  · cases isStr with
    | true => simp at h
    | false =>
      simp at h; obtain ⟨rfl, rfl⟩ := h
      obtain ⟨e, he⟩ : ∃ e, P.underlying tx = some (.slice e) := by simpa using hk
      cases hx
      exact ⟨[], .nil, Src.ofNil W he _⟩
  · rename_i k o n0 c ex
    cases isStr with
    | true => simp at h
    | false =>
      simp only [Bool.false_eq_true, if_false] at h
      split at h
      · rename_i cs hcs
        split at h
        · rename_i hfit
          rw [Arr.sub_eq _ _ _ hfit] at h
          rw [Arr.len_eq] at hfit
          simp only [Option.some.injEq, Prod.mk.injEq] at h; obtain ⟨rfl, rfl⟩ := h
          obtain ⟨e, he⟩ : ∃ e, P.underlying tx = some (.slice e) := by simpa using hk
          cases hx with
          | slice _ _ b s _ _ _ hφ =>
          obtain ⟨vs', g1, g2, g3⟩ := hs.range hφ hcs hfit
          exact ⟨vs', g1, Src.ofSlice W he _ _ _ vs' g2 g3 (g1.allOne ho)⟩
        · simp at h
      · simp at h
  · cases isStr with
    | true => simp at h
    | false =>
      simp at h; obtain ⟨rfl, rfl⟩ := h
      obtain ⟨e, he⟩ : ∃ e, P.underlying tx = some (.slice e) := by simpa using hk
      cases hx with
      | sliceE a c =>
      cases a with
      | none => exact ⟨[], .nil, Src.ofNil W he _⟩
      | some a => exact ⟨[], .nil, Src.ofSlice W he a 0 c [] (by simp) (by simp) (by simp)⟩
  · rename_i l
    split at h
    · rename_i hc
      simp only [Bool.and_eq_true, beq_iff_eq] at hc
      obtain ⟨rfl, rfl⟩ := hc
      simp only [Option.some.injEq, Prod.mk.injEq] at h; obtain ⟨rfl, rfl⟩ := h
      cases hx with
      | str =>
      have he : P.underlying tx = some .string := by simpa using hk
      refine ⟨byteCells (S.den η (.lit l)), ?_, ?_⟩
      · have : byteCells (S.den η (.lit l)) = l.map fun b => Value.int .u8 b.toNat := by simp [byteCells, S.den]
        rw [this]; exact byteV_vr l
      · have := Src.ofString (P := P) W he (S.den η (.lit l))
        rwa [lit_size] at this
    · simp at h
  · simp at h

/-! ### A row that may lie in an old one -/
def St.grow (st : St) (k : Nat) (cs : Arr) (w : Nat) : St :=
  match st.heap.get k with
  | some (.cells c0 w0 ps) => { st with heap := ((kill (ps.filter (· != k)) st.heap).set k (.cells c0 w0 [st.heap.size])).push (.cells cs w [k]) }
  | _ => st
theorem SR.growWith {st : St} (h : SR η φ st W) {k b w w0 bK : Nat} {s sK : Nat × Nat} {c0 cs : Arr} {ps : List Nat} {W' : World} (hk : st.heap.get k = some (.cells c0 w0 ps)) (hφ : φ k = some (b, s))
    (hsz : W.heap.size ≤ W'.heap.size) (hbK : bK < W'.heap.size) (hfresh : bK = b ∨ W.heap.size ≤ bK)
    (hold : ∀ bj, bj ≠ b → bj < W.heap.size → W'.heap[bj]? = W.heap[bj]?) (hsame : OR η (φ.put st.heap.size bK sK) (.cells c0 w0 [st.heap.size]) s W'.heap[b]?) (hK : OR η (φ.put st.heap.size bK sK) (.cells cs w [k]) sK W'.heap[bK]?) :
    SR η (φ.put st.heap.size bK sK) (st.grow k cs w) W' := by
  have hkl : k < st.heap.size := Hp.get_lt hk
  have hheap : (st.grow k cs w).heap = ((kill (ps.filter (· != k)) st.heap).set k (.cells c0 w0 [st.heap.size])).push (.cells cs w [k]) := by simp only [St.grow, hk]
  have hlen : ((kill (ps.filter (· != k)) st.heap).set k (O.cells c0 w0 [st.heap.size])).size = st.heap.size := by rw [Hp.size_set, kill_length]
  -- what an object that is alive now was
  have key : ∀ j o, (st.grow k cs w).heap.get j = some o → o.isDead = false → (j = st.heap.size ∧ o = .cells cs w [k]) ∨ (j = k ∧ o = .cells c0 w0 [st.heap.size]) ∨ (j ≠ k ∧ j < st.heap.size ∧ j ∉ ps ∧ st.heap.get j = some o) := by
    intro j o hj hd
    rw [hheap, Hp.get_push] at hj
    split at hj
    · rename_i hlt
      rw [hlen] at hlt
      rw [Hp.get_set] at hj
      split at hj
      · rename_i e; subst e
        split at hj
        · simp at hj; exact .inr (.inl ⟨rfl, hj.symm⟩)
        · simp at hj
      · rename_i e
        obtain ⟨hn, hj'⟩ := kill_get _ _ _ _ hj hd
        refine .inr (.inr ⟨fun q => e q.symm, hlt, ?_, hj'⟩)
        intro hm; exact hn (by simp [hm]; exact fun q => e q.symm)
    · rename_i hge
      rw [hlen] at hge hj
      split at hj
      case isFalse => simp at hj
      rename_i e
      simp at hj
      exact .inl ⟨e.1, hj.symm⟩
  have other : ∀ j o bj sj, j ≠ k → j ∉ ps → st.heap.get j = some o → o.isDead = false → φ j = some (bj, sj) → bj ≠ b := by
    intro j o bj sj hjk hps hj hd hφj e
    subst e
    rcases h.sep j k bj sj s o _ hφj hφ hj hk hd rfl with e | ⟨_, e⟩
    · exact hjk e
    · exact hps e
  have hplace : ∀ j, j < st.heap.size → (φ.put st.heap.size bK sK) j = φ j := by
    intro j hj; unfold Place.put; rw [if_neg (by omega)]
  have hplaceK : (φ.put st.heap.size bK sK) st.heap.size = some (bK, sK) := by simp [Place.put]
  constructor
  · intro j o hj hd
    rcases key j o hj hd with ⟨rfl, rfl⟩ | ⟨rfl, rfl⟩ | ⟨h1, h2, h3, h4⟩
    · exact ⟨bK, sK, hplaceK, hK⟩
    · exact ⟨b, s, by rw [hplace _ hkl]; exact hφ, hsame⟩
    · obtain ⟨bj, sj, g1, g2⟩ := h.obj j o h4 hd
      refine ⟨bj, sj, by rw [hplace _ h2]; exact g1, ?_⟩
      rw [hold bj (other j o bj sj h1 h3 h4 hd g1) (h.dom j bj sj g1).2]
      exact g2.mono (h.mono_put _ _)
  · intro j bj sj hj
    rw [hheap, Hp.size_push, hlen]
    by_cases e : j = st.heap.size
    · subst e; rw [hplaceK] at hj; injection hj with hj; injection hj with e1 e2; subst e1; simp; exact hbK
    · unfold Place.put at hj; rw [if_neg e] at hj
      have := h.dom j bj sj hj; omega
  · intro j l bj sj sl oj ol hj hl hoj hol hdj hdl
    rcases key j oj hoj hdj with ⟨rfl, rfl⟩ | ⟨rfl, rfl⟩ | ⟨h1, h2, h3, h4⟩ <;> rcases key l ol hol hdl with ⟨rfl, rfl⟩ | ⟨rfl, rfl⟩ | ⟨g1, g2, g3, g4⟩
    · exact .inl rfl
    · exact .inr ⟨by simp [O.peers], by simp [O.peers]⟩
    · exfalso
      rw [hplaceK] at hj; injection hj with hj; injection hj with e1 e2; subst e1
      rw [hplace _ g2] at hl
      rcases hfresh with e | e
      · exact other l ol _ sl g1 g3 g4 hdl hl e
      · have := (h.dom l _ _ hl).2; omega
    · exact .inr ⟨by simp [O.peers], by simp [O.peers]⟩
    · exact .inl rfl
    · exfalso
      rw [hplace _ hkl, hφ] at hj; injection hj with hj; injection hj with e1 e2; subst e1
      rw [hplace _ g2] at hl
      exact other l ol _ sl g1 g3 g4 hdl hl rfl
    · exfalso
      rw [hplaceK] at hl; injection hl with hl; injection hl with e1 e2; subst e1
      rw [hplace _ h2] at hj
      rcases hfresh with e | e
      · exact other j oj _ sj h1 h3 h4 hdj hj e
      · have := (h.dom j _ _ hj).2; omega
    · exfalso
      rw [hplace _ hkl, hφ] at hl; injection hl with hl; injection hl with e1 e2; subst e1
      rw [hplace _ h2] at hj
      exact other j oj _ sj h1 h3 h4 hdj hj rfl
    · rw [hplace _ h2] at hj; rw [hplace _ g2] at hl
      exact h.sep j l bj sj sl oj ol hj hl h4 g4 hdj hdl
  · intro p hp
    have : (st.grow k cs w).facts = st.facts := by simp only [St.grow, hk]
    rw [this] at hp
    exact h.facts p hp

/-! ### append -/
def roomy (need bytes : Nat) : Bool := decide (need ≤ 1048576) && decide (need * bytes ≤ 140737488355328)
def appendV (st : St) (sz bytes : Nat) (s : V) (n : Nat) (vs : List V) : T R :=
  match s with
  | .slice none 0 0 true =>
    if n = 0 then .ret (.val s st)
    else if roomy n bytes then T.opt 138 ((Arr.of vs).map fun cs => .val (.slice (some (st.heap.size, 0)) n n false) (st.new (.cells cs sz [])))
    else .fail 130
  | .slice (some (k, o)) len cap ex =>
    if len + n ≤ cap then
      if n = 0 then .ret (.val s st)
      else match st.store k (o + len * sz) vs with
        | some st' => .ret (.val (.slice (some (k, o)) (len + n) cap ex) st')
        | none => .fail 131
    else if roomy (len + n) bytes then
      match st.heap.get k with
      | some (.cells cs w _) =>
        match (cs.part o (len * sz)).bind fun p => p.app vs with
        | some p =>
          if ex then .ret (.val (.slice (some (st.heap.size, 0)) (len + n) (len + n) false) (st.new (.cells p sz [])))
          else if len = cap ∧ o + len * sz = cs.len ∧ w = sz then .ret (.val (.slice (some (st.heap.size, 0)) (len + n) (len + n) false) (st.grow k p sz))
          else .fail 132
        | none => .fail 133
      | _ => .fail 134
    else .fail 135
  | _ => .fail 136
/-- What is appended: a slice's elements, a string's bytes, so many zeros. -/
def srcX (st : St) (i : TypeInfo) (zv : V) (d : TypeDesc) (x : V) : Option (Nat × List V) :=
  match d with
  | .slice _ => srcV st i.size false x
  | .string => srcV st i.size true x
  | .int _ => match x with
    | .int _ (.lit m) => if 0 ≤ m ∧ m ≤ 65536 ∧ m.toNat * i.bytes ≤ 140737488355328 ∧ 0 < zv.cells.length then some (m.toNat, zerosV zv.cells (m.toNat * i.size)) else none
    | _ => none
  | _ => none
def opAppend (P : Program) (st : St) (tys : List TypeId) (args : List V) : T R :=
  match tys, args with
  | [t, tx], [s, x] => match P.underlying t, P.underlying tx with
    | some (.slice el), some d => match P.info? el, zeroOf P el with
      | some i, some zv => match srcX st i zv d x with
        | some (n, vs) => if vs.all V.one && zv.cells.length == i.size then appendV st i.size i.bytes s n vs else .fail 142
        | none => .fail 143
      | _, _ => .fail 144
    | _, _ => .fail 145
  | _, _ => .fail 146

/-- What append does with a source. -/
structure App (P : Program) (i : TypeInfo) (z : Value) (tx : TypeId) (x : Value) (n : Nat) (news : List Value) (w : World) : Prop where
  newsLen : news.length = n * i.size
  room : ∀ {t ty e : TypeId}, P.underlying t = some (.slice e) → P.info? e = some i → ∀ {b off sLen sCap : Nat}, sLen + n ≤ sCap → ∀ {W' : World}, (storeCells ⟨b, off + sLen * i.size, none⟩ news).run P w = .ok () W' →
    (Builtin.append_ #[t, tx] ty #[.slice (some ⟨b, off, none⟩) sLen sCap, x]).run P w = .ok (.slice (some ⟨b, off, none⟩) (sLen + n) sCap) W'
  nil : n = 0 → ∀ {t ty e : TypeId}, P.underlying t = some (.slice e) → P.info? e = some i → (Builtin.append_ #[t, tx] ty #[.slice none 0 0, x]).run P w = .ok (.slice none 0 0) w
  grow : ∀ {t ty e : TypeId}, P.underlying t = some (.slice e) → P.info? e = some i → ∀ {base : Option Addr} {sLen sCap : Nat} {olds : List Value},
    (Builtin.firstCells i.size sLen (.slice base sLen sCap)).run P w.drew = .ok olds.toArray w.drew → sCap < sLen + n → ((sLen + n : Nat) : Int) ≤ 9223372036854775807 → Builtin.nextslicecap (sLen + n) sCap * i.bytes ≤ 281474976710656 →
    (Builtin.append_ #[t, tx] ty #[.slice base sLen sCap, x]).run P w =
      .ok (.slice (some ⟨w.heap.size, 0, none⟩) (sLen + n) (grownCap w (sLen + n) sCap e))
        (w.drew.alloc (.cells ((olds ++ news).toArray ++ Builtin.zeroCells z.cells (grownCap w (sLen + n) sCap e - (sLen + n))) e))
theorem run_append_room2 {t tx ty e : TypeId} {i : TypeInfo} (ht : P.underlying t = some (.slice e)) (hi : P.info? e = some i) {b off sLen sCap : Nat} {x : Value} {n : Nat} {news : List Value} (hs : Src P i.size tx x n news W)
    (hroom : sLen + n ≤ sCap) {W' : World} (hst : (storeCells ⟨b, off + sLen * i.size, none⟩ news).run P W = .ok () W') :
    (Builtin.append_ #[t, tx] ty #[.slice (some ⟨b, off, none⟩) sLen sCap, x]).run P W = .ok (.slice (some ⟨b, off, none⟩) (sLen + n) sCap) W' := by
  rcases hs.kind with ⟨e', hk⟩ | hk <;> simp [Builtin.append_, run_underlying ht, run_underlying hk, sizeOf, typeInfo, hi, hs.len, hroom, hs.cells, Addr.add_lit, hst]
theorem App.ofSrc {i : TypeInfo} {z : Value} (hz : i.zero = some z) {tx : TypeId} {x : Value} {n : Nat} {news : List Value} (hs : Src P i.size tx x n news W) : App P i z tx x n news W where
  newsLen := hs.newsLen
  room := fun ht hi => fun hroom => fun hst => run_append_room2 ht hi hs hroom hst
  nil := by
    intro hn t ty e ht hi
    subst hn
    rcases hs.kind with ⟨e', hk⟩ | hk <;> simp [Builtin.append_, run_underlying ht, run_underlying hk, sizeOf, typeInfo, hi, hs.len, hs.cells]
  grow := fun ht hi => fun hold hg h63 hfit => run_append_grow_src W _ _ _ _ i z ht hi hz _ _ _ _ hold _ _ _ hs hg h63 hfit
theorem App.ofZeros {i : TypeInfo} {z : Value} (hz : i.zero = some z) (hzs : z.cells.size = i.size) {tx : TypeId} {k0 k : IntKind} (hk : P.underlying tx = some (.int k0)) {n : Nat} (hn : n ≤ 65536) (hb : n * i.bytes ≤ 140737488355328) :
    App P i z tx (.int k (n : Int)) n (Builtin.zeroCells z.cells n).toList W := by
  have hw : IntKind.i64.wrap (n : Int) = (n : Int) := wrap_id .i64 _ (by have : IntKind.i64.min = -9223372036854775808 := rfl; omega) (by simp [IntKind.max, IntKind.signed, IntKind.bits]; omega)
  have hai : ∀ w' : World, (asInt (Value.int k (n : Int))).run P w' = .ok (n : Int) w' := fun _ => rfl
  have h1 : ¬ ((n : Int) < 0) := by omega
  have h2 : ¬ ((n : Int) * (i.bytes : Int) > 281474976710656) := by rw [← Int.natCast_mul]; omega
  have h2' : ¬ (281474976710656 < (n : Int) * (i.bytes : Int)) := h2
  have hlen : (Builtin.zeroCells z.cells n).toList.length = n * i.size := by simp [Builtin.zeroCells, hzs]
  have happ : ∀ w' : World, (if n * i.size = 0 then (pure #[] : Sem (Array Value)) else do pure (Builtin.zeroCells z.cells n)).run P w' = .ok (Builtin.zeroCells z.cells n) w' := by
    intro w'
    split
    · rename_i h0
      have : Builtin.zeroCells z.cells n = #[] := by
        apply Array.eq_empty_of_size_eq_zero
        rw [← Array.length_toList, hlen, h0]
      rw [this]; rfl
    · rfl
  refine ⟨hlen, ?_, ?_, ?_⟩
  · intro t ty e ht hi b off sLen sCap hroom W' hst
    by_cases h0 : n * i.size = 0
    · have hzc : Builtin.zeroCells z.cells n = #[] := by
        apply Array.eq_empty_of_size_eq_zero
        rw [← Array.length_toList, hlen, h0]
      rw [hzc] at hst
      simp only [Builtin.append_, run_underlying ht, run_underlying hk, sizeOf, typeInfo, hi, hai, hw, h1, Sem.run_bind, Sem.run_pure, Result.andThen_ok, List.getElem?_toArray, List.getElem?_cons_zero, List.getElem?_cons_succ, run_program, if_false, if_true, Int.toNat_natCast]
      simp [h2', hroom, h0, Addr.add_lit]
      simpa using congrArg (fun r : Result Unit => r.andThen fun _ w' => Result.ok (Value.slice (some ⟨b, off, none⟩) (sLen + n) sCap) w') hst
    · simp only [Builtin.append_, run_underlying ht, run_underlying hk, sizeOf, typeInfo, hi, hai, hw, h1, Sem.run_bind, Sem.run_pure, Result.andThen_ok, List.getElem?_toArray, List.getElem?_cons_zero, List.getElem?_cons_succ, run_program, if_false, if_true, Int.toNat_natCast]
      simp [h2', hroom, h0, zeroValue, typeInfo, hi, hz, Addr.add_lit, hst]
  · intro hn0 t ty e ht hi
    subst hn0
    simp only [Builtin.append_, run_underlying ht, run_underlying hk, sizeOf, typeInfo, hi, hai, hw, h1, Sem.run_bind, Sem.run_pure, Result.andThen_ok, List.getElem?_toArray, List.getElem?_cons_zero, List.getElem?_cons_succ, run_program, if_false, if_true, Int.toNat_natCast]
    simp
  · intro t ty e ht hi base sLen sCap olds hold hg h63 hfit
    have hnr : ¬ (sLen + n ≤ sCap) := by omega
    have h63' : ¬ (9223372036854775807 < ((sLen : Int) + (n : Int))) := by omega
    have h48' : ¬ (281474976710656 < Builtin.nextslicecap (sLen + n) sCap * i.bytes) := by omega
    by_cases h0 : n * i.size = 0
    · have hzc : Builtin.zeroCells z.cells n = #[] := by
        apply Array.eq_empty_of_size_eq_zero
        rw [← Array.length_toList, hlen, h0]
      simp only [Builtin.append_, run_underlying ht, run_underlying hk, sizeOf, typeInfo, hi, hai, hw, h1, Sem.run_bind, Sem.run_pure, Result.andThen_ok, List.getElem?_toArray, List.getElem?_cons_zero, List.getElem?_cons_succ, run_program, if_false, if_true, Int.toNat_natCast]
      simp [h2', hnr, h0, zeroValue, typeInfo, hi, hz, h63', h48', Question.forced, hold, newRow, grownCap, hzc]
    · simp only [Builtin.append_, run_underlying ht, run_underlying hk, sizeOf, typeInfo, hi, hai, hw, h1, Sem.run_bind, Sem.run_pure, Result.andThen_ok, List.getElem?_toArray, List.getElem?_cons_zero, List.getElem?_cons_succ, run_program, if_false, if_true, Int.toNat_natCast]
      simp [h2', hnr, h0, zeroValue, typeInfo, hi, hz, h63', h48', Question.forced, hold, newRow, grownCap]
      congr 2
      apply Array.ext'
      simp [List.append_assoc]

/-- A new row that holds the old cells and the new ones. -/
theorem appendNew_ok {st : St} (hs : SR η φ st W) {all : Arr} {all' : List Value} (hall : VRs η φ all.toList all') {sz need newCap : Nat} (hcap : need ≤ newCap) (rest : Array Value) (hrest : (newCap - need) * sz ≤ rest.toList.length) (el : TypeId) :
    ResOk η φ W (.val (.slice (some (st.heap.size, 0)) need need false) (st.new (.cells all sz [])))
      (.ok (.value (.slice (some ⟨W.heap.size, 0, none⟩) need newCap)) (W.drew.alloc (.cells (all'.toArray ++ rest) el))) := by
  have hs2 : SR η φ st W.drew := ⟨hs.obj, hs.dom, hs.sep, hs.facts⟩
  have hx := Ext.allocAt hs2 (.cells (all'.toArray ++ rest) el) (0, newCap - need)
  refine ⟨_, _, φ.put st.heap.size W.drew.heap.size (0, newCap - need), rfl, ?_, ?_, ⟨hx.mono, hx.fresh, hx.os, hx.tape, hx.output, hx.size, hx.block⟩⟩
  · have := VR.slice (η := η) (φ := φ.put st.heap.size W.drew.heap.size (0, newCap - need)) st.heap.size 0 W.drew.heap.size (0, newCap - need) need need false (by simp [Place.put])
    have e : need + (newCap - need) = newCap := by omega
    simpa [e] using this
  · exact hs2.newAt _ _ _ ⟨[], all', rest.toList, el, by simp, rfl, hall.mono hx.mono, hrest⟩

theorem zeroCells_length (z : Value) (n : Nat) : (Builtin.zeroCells z.cells n).toList.length = n * z.cells.size := by
  simp [Builtin.zeroCells]
theorem appendV_ok {st : St} {t tx el ty : TypeId} {i : TypeInfo} {z : Value} (ht : P.underlying t = some (.slice el)) (hi : P.info? el = some i) (_hz : i.zero = some z) (hzs : z.cells.size = i.size) (hs : SR η φ st W)
    {s : V} {s' x' : Value} {n : Nat} {vs : List V} {vs' : List Value} (hsv : VR η φ s s') (hvs : VRs η φ vs vs') (hsrc : App P i z tx x' n vs' W) (hone : vs.all V.one = true) {r : R} (h : (appendV st i.size i.bytes s n vs).sel η = some r) :
    ResOk η φ W r ((do pure (.value (← Builtin.append_ #[t, tx] ty #[s', x'])) : Sem Next).run P W) := by
  have hnl : vs.length = n * i.size := by rw [hvs.length, hsrc.newsLen]
  unfold appendV at h
  split at h
  · cases hsv
    split at h
    · rename_i hn
      subst hn
      simp only [T.sel, Option.some.injEq] at h; subst h
      refine (ResF.here (v' := .slice none 0 0) ?_ (VR.sliceN 0 0 true) hs).ok
      simp only [Sem.run_bind, hsrc.nil rfl ht hi, Result.andThen_ok, Sem.run_pure]
    · rename_i hn
      split at h
      · rename_i hroom
        simp only [roomy, Bool.and_eq_true, decide_eq_true_eq] at hroom
        rw [T.sel_opt] at h
        cases hof : Arr.of vs with
        | none => simp [hof] at h
        | some cs =>
        have hcs := Arr.of_ok hof
        simp only [hof, Option.map_some, Option.some.injEq] at h; subst h
        rw [← hcs] at hvs
        have hrun := hsrc.grow (ty := ty) ht hi (base := none) (sLen := 0) (sCap := 0) (olds := []) (run_firstCells_none W.drew i.size 0 0 0) (by omega) (by omega) (growslice_fits (by omega) (by simpa using hroom.2))
        have hg := grownCap_ge W (0 + n) 0 el
        have := appendNew_ok (W := W) hs hvs (sz := i.size) (need := n) (newCap := grownCap W (0 + n) 0 el) (by omega) (Builtin.zeroCells z.cells (grownCap W (0 + n) 0 el - (0 + n))) (by rw [zeroCells_length, hzs]; simp) el
        simp only [Sem.run_bind, hrun, Result.andThen_ok, Sem.run_pure]
        simpa using this
      · simp [T.sel] at h
  · rename_i k o len cap ex
    cases hsv with
    | slice _ _ b sp _ _ _ hφ =>
    split at h
    · rename_i hfit
      split at h
      · rename_i hn
        subst hn
        simp only [T.sel, Option.some.injEq] at h; subst h
        have hv0 : vs' = [] := by have := hsrc.newsLen; simpa using this
        subst hv0
        have hrun := hsrc.room (ty := ty) ht hi (b := b) (off := sp.1 + o) (sLen := len) (sCap := if ex = true then cap else cap + sp.2) (by split <;> omega) (W' := W) (by simp [storeCells])
        refine (ResF.here ?_ (VR.slice k o b sp len cap ex hφ) hs).ok
        simp only [Sem.run_bind, hrun, Result.andThen_ok, Sem.run_pure, Nat.add_zero]
      · split at h
        · rename_i st' hst
          simp only [T.sel, Option.some.injEq] at h; subst h
          obtain ⟨W', h1, h2, h3⟩ := hs.store hst hvs hφ P
          rw [← Nat.add_assoc] at h1
          have hrun := hsrc.room (ty := ty) ht hi (b := b) (off := sp.1 + o) (sLen := len) (sCap := if ex = true then cap else cap + sp.2) (by split <;> omega) (W' := W') h1
          exact ⟨_, W', φ, by simp only [Sem.run_bind, hrun, Result.andThen_ok, Sem.run_pure], VR.slice k o b sp (len + n) cap ex (h3.mono _ _ hφ), h2, h3⟩
        · simp [T.sel] at h
    · rename_i hfit
      split at h
      case isFalse => simp [T.sel] at h
      rename_i hroom
      simp only [roomy, Bool.and_eq_true, decide_eq_true_eq] at hroom
      split at h
      case h_2 => simp [T.sel] at h
      rename_i cs w ps hk
      split at h
      case h_2 => simp [T.sel] at h
      rename_i p hpa
      cases hpart : cs.part o (len * i.size) with
      | none => simp [hpart] at hpa
      | some p0 =>
      simp only [hpart, Option.bind_some] at hpa
      obtain ⟨hol, hp0⟩ := Arr.part_ok hpart
      have hpl := Arr.app_ok hpa
      rw [hp0] at hpl
      have hcs : st.cells k = some cs := by simp [St.cells, hk]
      have hdrew : SR η φ st W.drew := ⟨hs.obj, hs.dom, hs.sep, hs.facts⟩
      obtain ⟨olds, o1, o2, o3⟩ := hs.range hφ hcs hol
      have hf : ∀ c, (Builtin.firstCells i.size len (.slice (some ⟨b, sp.1 + o, none⟩) len c)).run P W.drew = .ok olds.toArray W.drew := fun c => run_firstCells_some (P := P) W.drew i.size len ⟨b, sp.1 + o, none⟩ len c olds o2 (by simpa using o3)
      split at h
      · rename_i hex
        subst hex
        simp only [T.sel, Option.some.injEq] at h; subst h
        have hrun := hsrc.grow (ty := ty) ht hi (base := some ⟨b, sp.1 + o, none⟩) (sLen := len) (sCap := cap) (hf _) (by omega) (by omega) (growslice_fits (by omega) hroom.2)
        have hg := grownCap_ge W (len + n) cap el
        have := appendNew_ok (W := W) (all := p) hs (by rw [hpl]; exact o1.append hvs) (sz := i.size) (need := len + n) (newCap := grownCap W (len + n) cap el) hg (Builtin.zeroCells z.cells (grownCap W (len + n) cap el - (len + n))) (by rw [zeroCells_length, hzs]; exact Nat.le_refl _) el
        simp only [if_true, Sem.run_bind, hrun, Result.andThen_ok, Sem.run_pure]
        simpa using this
      · rename_i hex
        have hex' : ex = false := by simpa using hex
        subst hex'
        split at h
        case isFalse => simp [T.sel] at h
        rename_i hc
        obtain ⟨rfl, hend, rfl⟩ := hc
        simp only [T.sel, Option.some.injEq] at h; subst h
        obtain ⟨b', s', h1, pre, mid, post, tt, h2, h3, h4, h5⟩ := hs.obj k _ hk rfl
        rw [hφ] at h1; injection h1 with h1; injection h1 with hb hs'; subst hb; subst hs'
        have hbsz := (hs.dom k b sp hφ).2
        have hml := h4.length
        have hvl := hvs.length
        rw [Arr.len_eq] at hend
        have htake : (cs.toList.drop o).take (len * i.size) = cs.toList.drop o := List.take_of_length_le (by simp; omega)
        rw [htake] at hpl
        simp only [Bool.false_eq_true, if_false]
        by_cases hin : len + n ≤ len + sp.2
        · -- it stays where it is
          have hnw : n * i.size ≤ post.length := Nat.le_trans (Nat.mul_le_mul_right _ (by omega)) h5
          have hst := run_storeCells_at P b (sp.1 + o + len * i.size) tt vs' 0 (pre ++ mid ++ post).toArray W h2 (by simp; omega) (hvs.allOne hone)
          have hrun := hsrc.room (ty := ty) ht hi (b := b) (off := sp.1 + o) (sLen := len) (sCap := len + sp.2) hin hst
          have e1 : (pre ++ mid ++ post).take (sp.1 + o + len * i.size + 0) = pre ++ mid := by
            rw [List.take_append, List.take_of_length_le (by simp; omega)]
            rw [show sp.1 + o + len * i.size + 0 - (pre ++ mid).length = 0 by simp; omega]; simp
          have e2 : (pre ++ mid ++ post).drop (sp.1 + o + len * i.size + 0 + vs'.length) = post.drop vs'.length := by
            rw [List.drop_append, List.drop_of_length_le (by simp; omega)]
            rw [show sp.1 + o + len * i.size + 0 + vs'.length - (pre ++ mid).length = vs'.length by simp; omega]; simp
          have hnew := setRow_heap W b _ ((pre ++ mid ++ post).toArray.toList.take (sp.1 + o + len * i.size + 0) ++ vs' ++ (pre ++ mid ++ post).toArray.toList.drop (sp.1 + o + len * i.size + 0 + vs'.length)).toArray tt (0, 0) h2
          simp only [e1, e2] at hnew hrun
          have hmono := hs.mono_put b (sp.1 + o, sp.2 - n)
          have hSR := hs.growWith (cs := p) (w := i.size) (bK := b) (sK := (sp.1 + o, sp.2 - n)) hk hφ (by simp) (by simpa using hbsz) (.inl rfl) (fun bj hne _ => setRow_other W b bj _ hne)
            (by
              refine ⟨pre, mid, vs' ++ post.drop vs'.length, tt, ?_, h3, h4.mono hmono, ?_⟩
              · rw [hnew]; simp [List.append_assoc]
              · simp; omega)
            (by
              refine ⟨pre ++ mid.take o, mid.drop o ++ vs', post.drop vs'.length, tt, ?_, ?_, by rw [hpl]; exact ((h4.drop o).append hvs).mono hmono, ?_⟩
              · rw [hnew]
                have : pre ++ List.take o mid ++ (List.drop o mid ++ vs') ++ List.drop vs'.length post = pre ++ mid ++ vs' ++ post.drop vs'.length := by
                  simp only [List.append_assoc]; rw [← List.append_assoc (List.take o mid), List.take_append_drop]
                rw [this]
              · simp; omega
              · have : (sp.2 - n) * i.size + n * i.size ≤ post.length := by rw [← Nat.add_mul]; rw [show sp.2 - n + n = sp.2 by omega]; exact h5
                simp; omega)
          refine ⟨.slice (some ⟨b, sp.1 + o, none⟩) (len + n) (len + sp.2), _, φ.put st.heap.size b (sp.1 + o, sp.2 - n), by simp only [Sem.run_bind, hrun, Result.andThen_ok, Sem.run_pure], ?_, hSR, ?_⟩
          · have := VR.slice (η := η) (φ := φ.put st.heap.size b (sp.1 + o, sp.2 - n)) st.heap.size 0 b (sp.1 + o, sp.2 - n) (len + n) (len + n) false (by simp [Place.put])
            have e : len + n + (sp.2 - n) = len + sp.2 := by omega
            simpa [e] using this
          · refine ⟨hmono, ?_, rfl, rfl, rfl, by simp, ?_⟩
            · intro j bj sj hj hn
              unfold Place.put at hj
              split at hj
              · injection hj with hj; injection hj with e1 e2; subst e1; exact .inr ⟨k, sp, hφ⟩
              · rw [hn] at hj; simp at hj
            · intro b' _ hn
              exact setRow_other _ _ _ _ (fun e => hn k sp (by rw [e]; exact hφ))
        · -- a new row
          have hrun := hsrc.grow (ty := ty) ht hi (base := some ⟨b, sp.1 + o, none⟩) (sLen := len) (sCap := len + sp.2) (hf _) (by omega) (by omega) (growslice_fits (by omega) hroom.2)
          have hg := grownCap_ge W (len + n) (len + sp.2) el
          rw [htake] at o1
          have hx := Ext.allocAt hdrew (.cells ((olds ++ vs').toArray ++ Builtin.zeroCells z.cells (grownCap W (len + n) (len + sp.2) el - (len + n))) el) (0, grownCap W (len + n) (len + sp.2) el - (len + n))
          have hSR := hs.growWith (cs := p) (w := i.size) (bK := W.heap.size) (sK := (0, grownCap W (len + n) (len + sp.2) el - (len + n))) (W' := W.drew.alloc (.cells ((olds ++ vs').toArray ++ Builtin.zeroCells z.cells (grownCap W (len + n) (len + sp.2) el - (len + n))) el)) hk hφ
            (by simp) (by simp) (.inr (Nat.le_refl _)) (fun bj _ hlt => by rw [heap_alloc_old _ _ (by simpa using hlt)]; rfl)
            (by
              rw [heap_alloc_old _ _ (by simpa using hbsz)]
              exact ⟨pre, mid, post, tt, h2, h3, h4.mono hx.mono, h5⟩)
            (by
              have e : (W.drew.alloc (.cells ((olds ++ vs').toArray ++ Builtin.zeroCells z.cells (grownCap W (len + n) (len + sp.2) el - (len + n))) el)).heap[W.heap.size]? = some (.cells ((olds ++ vs').toArray ++ Builtin.zeroCells z.cells (grownCap W (len + n) (len + sp.2) el - (len + n))) el) := heap_alloc_new W.drew _
              rw [e]
              refine ⟨[], olds ++ vs', (Builtin.zeroCells z.cells (grownCap W (len + n) (len + sp.2) el - (len + n))).toList, el, by simp, rfl, by rw [hpl]; exact (o1.append hvs).mono hx.mono, ?_⟩
              rw [zeroCells_length, hzs]; exact Nat.le_refl _)
          refine ⟨.slice (some ⟨W.heap.size, 0, none⟩) (len + n) (grownCap W (len + n) (len + sp.2) el), _, φ.put st.heap.size W.heap.size (0, grownCap W (len + n) (len + sp.2) el - (len + n)), by simp only [Sem.run_bind, hrun, Result.andThen_ok, Sem.run_pure], ?_, hSR, ⟨hx.mono, hx.fresh, hx.os, hx.tape, hx.output, hx.size, hx.block⟩⟩
          have := VR.slice (η := η) (φ := φ.put st.heap.size W.heap.size (0, grownCap W (len + n) (len + sp.2) el - (len + n))) st.heap.size 0 W.heap.size (0, grownCap W (len + n) (len + sp.2) el - (len + n)) (len + n) (len + n) false (by simp [Place.put])
          have e : len + n + (grownCap W (len + n) (len + sp.2) el - (len + n)) = grownCap W (len + n) (len + sp.2) el := by omega
          simpa [e] using this
  · simp [T.sel] at h
theorem opAppend_ok {st : St} {tys : List TypeId} {args : List V} {args' : List Value} {ty : TypeId} (hs : SR η φ st W) (hargs : VRs η φ args args') {r : R} (h : (opAppend P st tys args).sel η = some r) :
    ResOk η φ W r ((do pure (.value (← Builtin.append_ tys.toArray ty args'.toArray)) : Sem Next).run P W) := by
  unfold opAppend at h
  split at h
  case h_2 => simp [T.sel] at h
  rename_i t tx s x
  cases hargs with | cons _ s' _ l1 hsv t1 =>
  cases t1 with | cons _ x' _ l2 hxv t2 =>
  cases t2 with | nil =>
  split at h
  case h_2 => simp [T.sel] at h
  rename_i el d ht hd
  split at h
  case h_2 => simp [T.sel] at h
  rename_i i zv hi hzv
  split at h
  case h_2 => simp [T.sel] at h
  rename_i n vs hsrc
  split at h
  case isFalse => simp [T.sel] at h
  rename_i hc
  simp only [Bool.and_eq_true, beq_iff_eq] at hc
  unfold zeroOf at hzv
  rw [hi] at hzv
  simp only at hzv
  split at hzv
  case h_2 => simp at hzv
  rename_i z hz
  have hzr := ofVal_vr (η := η) (φ := φ) hzv
  have hzs : z.cells.size = i.size := by have := hzr.cells.length; rw [← hc.2, this]; simp
  unfold srcX at hsrc
  split at hsrc
  · obtain ⟨vs', g1, g2⟩ := srcV_ok hs hxv hsrc hc.1 (by simpa using ⟨_, hd⟩)
    exact appendV_ok ht hi hz hzs hs hsv g1 (App.ofSrc hz g2) hc.1 h
  · obtain ⟨vs', g1, g2⟩ := srcV_ok hs hxv hsrc hc.1 (by simpa using hd)
    exact appendV_ok ht hi hz hzs hs hsv g1 (App.ofSrc hz g2) hc.1 h
  · split at hsrc
    · rename_i k0 _ k m
      split at hsrc
      · rename_i hm
        simp only [Option.some.injEq, Prod.mk.injEq] at hsrc
        obtain ⟨rfl, rfl⟩ := hsrc
        cases hxv
        have hmn : E.den η (.lit m) = ((m.toNat : Nat) : Int) := by simp only [E.den]; omega
        rw [hmn]
        refine appendV_ok ht hi hz hzs hs hsv ?_ (App.ofZeros (k := k) hz hzs hd (by omega) hm.2.2.1) hc.1 h
        have := zeros_vr (hzr.cells) (m.toNat * i.size) (.inr hm.2.2.2)
        unfold Builtin.zeroCells
        rw [hzs]
        rw [hzs] at this
        exact this
      · simp at hsrc
    · simp at hsrc
  · simp at hsrc

/-! ### make, copy -/
def zerosA (z : List V) (n : Nat) : Option Arr :=
  match z with
  | [v] => Arr.fill v n
  | z => Arr.of (zerosV z n)
theorem zerosA_ok {z : List V} {n : Nat} {a : Arr} (h : zerosA z n = some a) : a.toList = zerosV z n := by
  unfold zerosA at h
  split at h
  · rename_i v
    rw [Arr.fill_ok h]
    unfold zerosV
    refine List.ext_getElem? fun i => ?_
    by_cases hi : i < n
    · simp [hi, Nat.mod_one]
    · simp [hi]
  · exact Arr.of_ok h
def litI (a : Regs) (x : Operand) : Option Nat :=
  match evalO a x with
  | some (.int _ (.lit n)) => if 0 ≤ n ∧ n ≤ 1048576 then some n.toNat else none
  | _ => none
theorem litI_ok {a : Regs} {A : Act} (ha : AR η φ a A) {x : Operand} {n : Nat} (h : litI a x = some n) : ∃ k, A.eval x = .int k (n : Int) ∧ n ≤ 1048576 := by
  unfold litI at h
  split at h
  · rename_i k z hx
    split at h
    · rename_i hz
      simp only [Option.some.injEq] at h; subst h
      have hv := evalO_vr ha hx
      generalize A.eval x = v at hv ⊢
      cases hv
      refine ⟨k, ?_, by omega⟩
      simp only [E.den]; congr 1; omega
    · simp at h
  · simp at h
def newMakeSlice (P : Program) (a : Regs) (t : TypeId) (l c : Operand) : Option New :=
  match P.underlying t, litI a l, litI a c with
  | some (.slice el), some len, some cap => match P.info? el, zeroOf P el with
    | some i, some z => if len ≤ cap ∧ i.bytes * cap ≤ 140737488355328 ∧ 0 < z.cells.length then (zerosA z.cells (cap * i.size)).map fun cs => newSlice el cs len cap else none
    | _, _ => none
  | _, _, _ => none
theorem newMakeSlice_ok {a : Regs} {A : Act} {t : TypeId} {l c : Operand} {n : New} (ha : AR η φ a A) (h : newMakeSlice P a t l c = some n) :
    NewOk η φ W n ((do pure (.value (← Instr.makeSlice t (A.eval l) (A.eval c))) : Sem Next).run P W) := by
  unfold newMakeSlice at h
  split at h
  case h_2 => simp at h
  rename_i el len cap hu hl hc
  split at h
  case h_2 => simp at h
  rename_i i z hi hz
  split at h
  case isFalse => simp at h
  rename_i hcond
  obtain ⟨c1, c2, c3⟩ := hcond
  cases hza : zerosA z.cells (cap * i.size) with
  | none => simp [hza] at h
  | some cs =>
  have hcs := zerosA_ok hza
  simp only [hza, Option.map_some, Option.some.injEq] at h; subst h
  obtain ⟨k1, e1, b1⟩ := litI_ok ha hl
  obtain ⟨k2, e2, b2⟩ := litI_ok ha hc
  unfold zeroOf at hz
  rw [hi] at hz
  simp only at hz
  split at hz
  case h_2 => simp at hz
  rename_i z' hz'
  have c2' : (i.bytes : Int) * (cap : Int) ≤ 281474976710656 := by
    rw [← Int.natCast_mul]; omega
  have hrun := run_make (P := P) W t el i z' hu hi hz' k1 k2 (len : Int) (cap : Int) (by omega) (by omega) c2' (by omega)
  have h4 := zeros_vr (ofVal_vr (η := η) (φ := φ) hz).cells (cap * i.size) (.inr c3)
  rw [← hcs] at h4
  have := newSlice_ok (W := W) (elem := el) (len := len) (cap := cap) h4
  rw [e1, e2]
  simp only [Sem.run_bind, hrun, Result.andThen_ok, Sem.run_pure, Int.toNat_natCast]
  exact this

end
end
end Go.Proofs.YtbobnbndbgpanaaGreat.Sx
