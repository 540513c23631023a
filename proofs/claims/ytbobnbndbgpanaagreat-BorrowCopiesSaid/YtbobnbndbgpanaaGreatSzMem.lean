/- The executor's operations on maps and slices. -/
import Derived.Test.YtbobnbndbgpanaaGreatSzOp4
import Derived.MapKept
namespace Go.Proofs.YtbobnbndbgpanaaGreat.Sx
open Go
set_option linter.unusedVariables false
set_option linter.unusedSimpArgs false
noncomputable section

section
variable {η : Env} {φ : Place} {W : World} {P : Program}

/-! ### Maps -/
theorem SR.peer {st : St} (h : SR η φ st W) {j k b : Nat} {s s' : Nat × Nat} {oj ok : O} (hj : φ j = some (b, s)) (hk : φ k = some (b, s')) (hoj : st.heap.get j = some oj) (hok : st.heap.get k = some ok)
    (hdj : oj.isDead = false) (hdk : ok.isDead = false) (hp : ok.peers = []) : j = k := by
  rcases h.sep j k b s s' oj ok hj hk hoj hok hdj hdk with e | ⟨_, e⟩
  · exact e
  · rw [hp] at e; simp at e

def newMap : New := ⟨.map [] 0, fun k => .map (some k)⟩
def newMakeMap (P : Program) (a : Regs) (t : TypeId) (r : Option Operand) : Option New :=
  match r with
  | none => some newMap
  | some x => match P.underlying t, evalO a x with
    | some (.map _ _), some (.int _ _) => some newMap
    | _, _ => none
theorem newMap_ok : NewOk η φ W newMap (.ok (.value (.map (some W.heap.size))) (W.alloc (.map #[] 0))) :=
  ⟨rfl, _, _, rfl, fun _ _ k hk => ⟨VR.map k W.heap.size (0, 0) hk, #[], rfl, .nil⟩⟩
theorem newMakeMap_ok {a : Regs} {A : Act} {t : TypeId} {x : Option Operand} {n : New} (ha : AR η φ a A) (h : newMakeMap P a t x = some n) :
    NewOk η φ W n ((do pure (.value (← Instr.makeMap t (x.map A.eval))) : Sem Next).run P W) := by
  unfold newMakeMap at h
  split at h
  · simp only [Option.some.injEq] at h; subst h
    have := newMap_ok (η := η) (φ := φ) (W := W)
    simp [Instr.makeMap]
    exact this
  · split at h
    · rename_i hu hx
      simp only [Option.some.injEq] at h; subst h
      have hv := evalO_vr ha hx
      have := newMap_ok (η := η) (φ := φ) (W := W)
      generalize hev : A.eval _ = v at hv
      cases hv
      simp [Instr.makeMap, run_underlying hu, hev, asInt]
      exact this
    · simp at h

def keyEq (x y : V) : Option B :=
  match x, y with
  | .str a, .str b => some (B.seq' a b)
  | .int k a, .int k' b => if k = k' then some (B.cmp' .eql a b) else none
  | .bool a, .bool b => some (B.eqb' a b)
  | _, _ => none
def keyKind : TypeDesc → V → Bool
  | .string, .str _ => true
  | .int j, .int k _ => decide (j = k)
  | .bool, .bool _ => true
  | _, _ => false
theorem toList_data (x : ByteArray) : x.toList = x.data.toList := by
  first | rfl | simp | exact ByteArray.toList_eq x
theorem bytes_iff (a b : ByteArray) : a = b ↔ a.toList = b.toList := by
  constructor
  · intro e; rw [e]
  · intro e
    apply ByteArray.ext
    rw [toList_data, toList_data] at e
    exact Array.toList_inj.1 e
theorem isKey {d : TypeDesc} {x : V} {x' : Value} (hk : keyKind d x = true) (hx : VR η φ x x') : MapKept.IsKey d x' := by
  unfold keyKind at hk
  split at hk
  · cases hx; simp_all [MapKept.IsKey]
  · cases hx; simp_all [MapKept.IsKey]
  · cases hx; simp_all [MapKept.IsKey]
  · simp at hk
theorem keyEq_den {x y : V} {x' y' : Value} {b : B} (he : keyEq x y = some b) (hx : VR η φ x x') (hy : VR η φ y y') : b.den η = true ↔ x' = y' := by
  unfold keyEq at he
  split at he
  · cases hx; cases hy
    simp only [Option.some.injEq] at he; subst he
    simp [bytes_iff]
  · split at he
    · rename_i e; subst e
      cases hx; cases hy
      simp only [Option.some.injEq] at he; subst he
      simp [cmpI]
    · simp at he
  · cases hx; cases hy
    simp only [Option.some.injEq] at he; subst he
    simp
  · simp at he
theorem sameNow_den {d : TypeDesc} {x y : V} {x' y' : Value} {b : B} (hk : keyKind d x = true) (hk' : keyKind d y = true) (he : keyEq x y = some b) (hx : VR η φ x x') (hy : VR η φ y y') :
    Instr.sameNow d x' y' = some (b.den η) := by
  obtain ⟨r, h1, h2⟩ := MapKept.sameNow_of_keys (isKey hk hx) (isKey hk' hy)
  rw [h1]
  congr 1
  rw [Bool.eq_iff_iff, h2, keyEq_den he hx hy]

def findK (d : TypeDesc) (x : V) (k : Option (Nat × V) → St → T R) : List (V × V × Nat) → Nat → St → T R
  | [], _, st => k none st
  | (y, v, _) :: l, i, st => if keyKind d y then match keyEq x y with
      | some b => br st b fun t st => if t then k (some (i, v)) st else findK d x k l (i + 1) st
      | none => .fail 111
    else .fail 112
def FoundK (η : Env) (φ : Place) (d : TypeDesc) (x' : Value) (es' : List MapEntry) (i : Nat) : Option (Nat × V) → Prop
  | none => Instr.findNow d x' es' i = some none
  | some (j, v) => ∃ v' e, Instr.findNow d x' es' i = some (some (j, v')) ∧ VR η φ v v' ∧ i ≤ j ∧ es'[j - i]? = some e ∧ Instr.sameNow d x' e.key = some true
theorem findK_sel {d : TypeDesc} {x : V} {x' : Value} {k : Option (Nat × V) → St → T R} {r : R} (hk : keyKind d x = true) (hx : VR η φ x x') :
    ∀ (l : List (V × V × Nat)) (l' : List MapEntry) (i : Nat) (st : St), MR η φ l l' → SR η φ st W → (findK d x k l i st).sel η = some r →
    ∃ o st', (k o st').sel η = some r ∧ SR η φ st' W ∧ FoundK η φ d x' l' i o := by
  intro l
  induction l with
  | nil =>
    intro l' i st hm hs h
    cases hm
    exact ⟨none, st, h, hs, rfl⟩
  | cons y l ih =>
    intro l' i st hm hs h
    cases hm with
    | cons y v y' v' n _ l'' hy hv t =>
    simp only [findK] at h
    split at h
    · rename_i hky
      split at h
      · rename_i b hb
        obtain ⟨st', h', hs'⟩ := br_sel hs h
        have hn := sameNow_den hk hky hb hx hy
        split at h'
        · rename_i ht
          rw [ht] at hn
          refine ⟨some (i, v), st', h', hs', v', ⟨y', v', n⟩, ?_, hv, Nat.le_refl _, by simp, hn⟩
          simp [Instr.findNow, hn]
        · rename_i hf
          have hf' : b.den η = false := by simpa using hf
          rw [hf'] at hn
          obtain ⟨o, st2, h1, h2, h3⟩ := ih l'' (i + 1) st' t hs' h'
          refine ⟨o, st2, h1, h2, ?_⟩
          cases o with
          | none => simpa [FoundK, Instr.findNow, hn] using h3
          | some p =>
            obtain ⟨j, w⟩ := p
            obtain ⟨w', e, g1, g2, g3, g4, g5⟩ := h3
            refine ⟨w', e, by simpa [Instr.findNow, hn] using g1, g2, by omega, ?_, g5⟩
            rw [show j - i = (j - (i + 1)) + 1 by omega]
            simpa using g4
      · simp [T.sel] at h
    · simp [T.sel] at h

theorem checkKey_plain {t : TypeId} {d : TypeDesc} {x : V} {x' : Value} (hu : P.underlying t = some d) (hk : keyKind d x = true) (hx : VR η φ x x') (e : Bool) (n : Nat) (W : World) :
    (Instr.checkKey e (n + 1) t x').run P W = .ok () W := by
  unfold Instr.checkKey
  unfold keyKind at hk
  split at hk
  · cases hx; simp [run_underlying hu]
  · cases hx; simp [run_underlying hu]
  · cases hx; simp [run_underlying hu]
  · simp at hk
theorem findKey_some {t : TypeId} {d : TypeDesc} {x' : Value} {es : List MapEntry} {o : Option (Nat × Value)} (hu : P.underlying t = some d) (h : Instr.findNow d x' es 0 = some o) (W : World) :
    (Instr.findKey t x' es).run P W = .ok o W := by
  unfold Instr.findKey
  simp [run_underlying hu, h]
theorem run_getMap {b : Nat} {es : Array MapEntry} {c : Nat} (h : W.heap[b]? = some (.map es c)) : (getObj b).run P W = .ok (.map es c) W := by
  simp [getObj, Sem.run, h]
theorem SR.map {st : St} (h : SR η φ st W) {k : Nat} {es : List (V × V × Nat)} {c : Nat} (hk : st.heap.get k = some (.map es c)) :
    ∃ b s es', φ k = some (b, s) ∧ W.heap[b]? = some (.map es' c) ∧ MR η φ es es'.toList := by
  obtain ⟨b, s, h1, es', h2, h3⟩ := h.obj k _ hk rfl
  exact ⟨b, s, es', h1, h2, h3⟩

def mapOf (st : St) : Option Nat → Option (List (V × V × Nat))
  | none => some []
  | some r => match st.heap.get r with
    | some (.map es _) => some es
    | _ => none
def opLookup (P : Program) (a : Regs) (st : St) (t : TypeId) (m k : Operand) (ok : Bool) : T R :=
  match P.underlying t, evalO a m, evalO a k with
  | some (.map kt el), some (.map o), some kv =>
    match P.underlying kt, zeroOf P el, mapOf st o with
    | some d, some z, some es => if keyKind d kv then findK d kv (fun o st => match o with
        | some (_, v) => .ret (.val (if ok then .tuple [v, .bool (.lit true)] else v) st)
        | none => .ret (.val (if ok then .tuple [z, .bool (.lit false)] else z) st)) es 0 st
      else .fail 113
    | _, _, _ => .fail 113
  | _, _, _ => .fail 113
def lookRes (ok : Bool) (z : Value) : Option (Nat × Value) → Value
  | some (_, v) => if ok then .tuple #[v, .bool true] else v
  | none => if ok then .tuple #[z, .bool false] else z
theorem run_lookup {t kt el : TypeId} {mv kv z : Value} {es : Array MapEntry} {o : Option (Nat × Value)} (ok : Bool) (hu : P.underlying t = some (.map kt el))
    (hm : (mv = .map none ∧ es = #[]) ∨ ∃ b c, mv = .map (some b) ∧ W.heap[b]? = some (.map es c)) (hc : ∀ e, (Instr.checkKey e 10000 kt kv).run P W = .ok () W)
    (hf : (Instr.findKey kt kv es.toList).run P W = .ok o W) (hz : (zeroValue el).run P W = .ok z W) : (Instr.lookup t mv kv ok).run P W = .ok (lookRes ok z o) W := by
  rcases hm with ⟨rfl, rfl⟩ | ⟨b, c, rfl, hb⟩
  · have h1 := hc true
    cases o <;> cases ok <;> simp [Instr.lookup, run_underlying hu, lookRes, h1, hf, hz] <;> simp_all
  · have h1 := hc es.isEmpty
    cases o <;> cases ok <;> simp [Instr.lookup, run_underlying hu, lookRes, run_getMap hb, h1, hf, hz]
theorem opLookup_ok {a : Regs} {A : Act} {st : St} {t : TypeId} {m k : Operand} {ok : Bool} {r : R} (ha : AR η φ a A) (hs : SR η φ st W) (h : (opLookup P a st t m k ok).sel η = some r) :
    ResF η φ W r ((do pure (.value (← Instr.lookup t (A.eval m) (A.eval k) ok)) : Sem Next).run P W) := by
  unfold opLookup at h
  split at h
  · rename_i kt el o kv hu hm hk
    split at h
    · rename_i d z es hd hz hes
      split at h
      · rename_i hkk
        have hkv := evalO_vr ha hk
        have hmv := evalO_vr ha hm
        generalize A.eval m = mv at hmv
        generalize A.eval k = kv' at hkv
        obtain ⟨es', hes', hcase⟩ : ∃ es' : Array MapEntry, MR η φ es es'.toList ∧ ((mv = .map none ∧ es' = #[]) ∨ ∃ b c, mv = .map (some b) ∧ W.heap[b]? = some (.map es' c)) := by
          cases hmv with
          | mapN =>
            simp only [mapOf, Option.some.injEq] at hes; subst hes
            exact ⟨#[], .nil, .inl ⟨rfl, rfl⟩⟩
          | map k0 b s hφ =>
            unfold mapOf at hes
            split at hes
            · rename_i e; cases e
            · rename_i r0 e; cases e
              split at hes
              · rename_i es0 c hh
                simp only [Option.some.injEq] at hes; subst hes
                obtain ⟨b1, s1, es1, g1, g2, g3⟩ := hs.map hh
                rw [hφ] at g1; injection g1 with g1; injection g1 with e1 e2; subst e1
                exact ⟨es1, g3, .inr ⟨_, _, rfl, g2⟩⟩
              · simp at hes
        obtain ⟨q, st', h1, h2, h3⟩ := findK_sel hkk hkv es es'.toList 0 st hes' hs h
        obtain ⟨z', hz1, hz2⟩ := run_zero hz W
        have hck : ∀ e, (Instr.checkKey e 10000 kt kv').run P W = .ok () W := fun e => checkKey_plain hd hkk hkv e 9999 W
        cases q with
        | none =>
          simp only [T.sel, Option.some.injEq] at h1; subst h1
          have hf := findKey_some (P := P) hd h3 W
          have hr := run_lookup ok hu hcase hck hf hz1
          refine ResF.here (v' := lookRes ok z' none) (by simp [hr]) ?_ h2
          cases ok
          · exact hz2 η φ
          · exact .tuple _ [z', .bool false] (.cons _ _ _ _ (hz2 η φ) (.cons _ _ _ _ (.bool (.lit false)) .nil))
        | some p =>
          obtain ⟨j, v⟩ := p
          obtain ⟨w, e, g1, g2, g3, g4, g5⟩ := h3
          simp only [T.sel, Option.some.injEq] at h1; subst h1
          have hf := findKey_some (P := P) hd g1 W
          have hr := run_lookup ok hu hcase hck hf hz1
          refine ResF.here (v' := lookRes ok z' (some (j, w))) (by simp [hr]) ?_ h2
          cases ok
          · exact g2
          · exact .tuple _ [w, .bool true] (.cons _ _ _ _ g2 (.cons _ _ _ _ (.bool (.lit true)) .nil))
      · simp [T.sel] at h
    · simp [T.sel] at h
  · simp [T.sel] at h

/-! ### A map's entry is laid -/
theorem SR.setMap {st : St} (h : SR η φ st W) {k b c c2 : Nat} {s : Nat × Nat} {es es2 : List (V × V × Nat)} {es' : Array MapEntry} (hk : st.heap.get k = some (.map es c)) (hφ : φ k = some (b, s))
    (hm : MR η φ es2 es'.toList) : SR η φ { st with heap := st.heap.set k (.map es2 c2) } { W with heap := W.heap.setIfInBounds b (.map es' c2) } ∧ Ext φ φ W { W with heap := W.heap.setIfInBounds b (.map es' c2) } := by
  have hb : b < W.heap.size := (h.dom k b s hφ).2
  have hkl : k < st.heap.size := Hp.get_lt hk
  constructor
  · constructor
    · intro j o hj hd
      simp only at hj
      rw [Hp.get_set] at hj
      split at hj
      · rename_i e; subst e
        have hj' : O.map es2 c2 = o := by simpa [hkl, Hp.get_few hk] using hj
        subst hj'
        exact ⟨b, s, hφ, es', by simp [hb], hm⟩
      · rename_i e
        obtain ⟨bj, sj, h1, h2⟩ := h.obj j o hj hd
        refine ⟨bj, sj, h1, ?_⟩
        have hne : b ≠ bj := by
          intro e'; subst e'
          exact e (h.peer h1 hφ hj hk hd rfl rfl).symm
        rw [show ({ W with heap := W.heap.setIfInBounds b (.map es' c2) } : World).heap[bj]? = W.heap[bj]? from by simp [hne]]
        exact h2
    · intro j bj sj hj
      have := h.dom j bj sj hj
      simp only [Hp.size_set, Array.size_setIfInBounds]
      exact this
    · intro j l bj sj sl oj ol hj hl hoj hol hdj hdl
      simp only at hoj hol
      rw [Hp.get_set] at hoj hol
      have key : ∀ i bi si oi, φ i = some (bi, si) → (if k = i then (if k < st.heap.size ∧ k < 160000 then some (O.map es2 c2) else none) else st.heap.get i) = some oi → oi.isDead = false →
          ∃ oi', st.heap.get i = some oi' ∧ oi'.isDead = false ∧ oi'.peers = oi.peers := by
        intro i bi si oi hi ho hd
        split at ho
        · rename_i e; subst e
          simp at ho; obtain ⟨_, rfl⟩ := ho
          exact ⟨_, hk, rfl, rfl⟩
        · exact ⟨oi, ho, hd, rfl⟩
      obtain ⟨oj', a1, a2, a3⟩ := key j bj sj oj hj hoj hdj
      obtain ⟨ol', c1, c2', c3⟩ := key l bj sl ol hl hol hdl
      rw [← a3, ← c3]
      exact h.sep j l bj sj sl oj' ol' hj hl a1 c1 a2 c2'
    · exact h.facts
  · refine ⟨Mono.refl φ, fun k b s h h' => by simp [h] at h', rfl, rfl, rfl, by simp, ?_⟩
    intro b' _ hn
    have : b ≠ b' := fun e => hn k s (by rw [← e]; exact hφ)
    simp [this]

def layE (k v : V) : List (V × V × Nat) → Nat → List (V × V × Nat)
  | [], _ => []
  | (_, _, n) :: l, 0 => (k, v, n) :: l
  | e :: l, i + 1 => e :: layE k v l i
theorem MR.append {l : List (V × V × Nat)} {l' : List MapEntry} (h : MR η φ l l') {k v : V} {k' v' : Value} (hk : VR η φ k k') (hv : VR η φ v v') (n : Nat) : MR η φ (l ++ [(k, v, n)]) (l' ++ [⟨k', v', n⟩]) := by
  induction h with
  | nil => exact .cons _ _ _ _ _ _ _ hk hv .nil
  | cons a b a' b' m l l' ha hb t ih => exact .cons _ _ _ _ _ _ _ ha hb ih
theorem MR.lay {k v : V} {k' v' : Value} (hk : VR η φ k k') (hv : VR η φ v v') : ∀ {l : List (V × V × Nat)} {l' : List MapEntry} (i : Nat), MR η φ l l' → MR η φ (layE k v l i) (l'.modify i fun e => { e with key := k', val := v' })
  | _, _, i, .nil => by cases i <;> simpa [layE] using MR.nil
  | _, _, 0, .cons a b a' b' m l l' ha hb t => by simpa [layE] using MR.cons _ _ _ _ _ _ _ hk hv t
  | _, _, i + 1, .cons a b a' b' m l l' ha hb t => by simpa [layE] using MR.cons _ _ _ _ _ _ _ ha hb (MR.lay hk hv i t)
theorem sameBits_of {d : TypeDesc} {x y : Value} (h : Instr.sameNow d x y = some true) (n : Nat) : Instr.sameBits n y x = true := by
  unfold Instr.sameNow at h
  split at h
  · split at h
    · rename_i e; subst e
      simp at h; subst h
      simp [Instr.sameBits]
    · simp at h
  · simp only [Option.some.injEq] at h
    have := (MapKept.bytes_beq _ _).1 h; subst this
    simp only [Instr.sameBits]; exact (MapKept.bytes_beq _ _).2 rfl
  · simp at h; subst h; simp [Instr.sameBits]
  · simp at h

def opMapUpdate (P : Program) (a : Regs) (st : St) (t : TypeId) (m k x : Operand) : T R :=
  match P.underlying t, evalO a m, evalO a k, evalO a x with
  | some (.map kt _), some (.map (some r)), some kv, some xv =>
    match P.underlying kt, mapOf st (some r) with
    | some d, some es => if keyKind d kv then findK d kv (fun o st => match st.heap.get r with
        | some (.map es c) => match o with
          | some (i, _) => .ret (.skip { st with heap := st.heap.set r (.map (layE kv xv es i) c) })
          | none => .ret (.skip { st with heap := st.heap.set r (.map (es ++ [(kv, xv, c)]) (c + 1)) })
        | _ => .fail 114) es 0 st
      else .fail 114
    | _, _ => .fail 114
  | _, _, _, _ => .fail 114
theorem opMapUpdate_ok {a : Regs} {A : Act} {st : St} {t : TypeId} {m k x : Operand} {r : R} (ha : AR η φ a A) (hs : SR η φ st W) (h : (opMapUpdate P a st t m k x).sel η = some r) :
    ResOk η φ W r ((do Instr.mapUpdate t (A.eval m) (A.eval k) (A.eval x); pure .skip : Sem Next).run P W) := by
  unfold opMapUpdate at h
  split at h
  · rename_i kt _ rr kv xv hu hm hk hx
    split at h
    · rename_i d es hd hes
      split at h
      · rename_i hkk
        have hkv := evalO_vr ha hk
        have hmv := evalO_vr ha hm
        have hxv := evalO_vr ha hx
        generalize A.eval m = mv at hmv
        generalize A.eval k = kv' at hkv
        generalize A.eval x = xv' at hxv
        cases hmv with
        | map k0 b s hφ =>
        simp only [mapOf] at hes
        split at hes
        case h_2 => simp at hes
        rename_i es0 c0 hh
        simp only [Option.some.injEq] at hes; subst hes
        obtain ⟨b1, s1, es1, g1, g2, g3⟩ := hs.map hh
        rw [hφ] at g1; injection g1 with g1; injection g1 with e1 e2; subst e1; subst e2
        have hck : ∀ e, (Instr.checkKey e 10000 kt kv').run P W = .ok () W := fun e => checkKey_plain hd hkk hkv e 9999 W
        obtain ⟨q, st', h1, h2, h3⟩ := findK_sel hkk hkv es0 es1.toList 0 st g3 hs h
        split at h1
        case h_2 => simp [T.sel] at h1
        rename_i es2 c2 hh2
        obtain ⟨b2, s2, es3, k1, k2, k3⟩ := h2.map hh2
        rw [hφ] at k1; injection k1 with k1; injection k1 with e1 e2; subst e1; subst e2
        rw [g2] at k2
        injection k2 with k2; injection k2 with e1 e2; subst e1; subst e2
        cases q with
        | none =>
          simp only [T.sel, Option.some.injEq] at h1; subst h1
          have hf := findKey_some (P := P) hd h3 W
          obtain ⟨n1, n2⟩ := h2.setMap (es2 := es2 ++ [(kv, xv, c0)]) (c2 := c0 + 1) (es' := es1.push { key := kv', val := xv', born := c0 }) hh2 hφ (by simpa using k3.append hkv hxv c0)
          refine ⟨_, φ, ?_, n1, n2⟩
          simp [Instr.mapUpdate, run_underlying hu, run_getMap g2, hck, hf, MapKept.run_setObj_map _ g2]
        | some p =>
          obtain ⟨j, v⟩ := p
          obtain ⟨w, e, q1, q2, q3, q4, q5⟩ := h3
          simp only [T.sel, Option.some.injEq] at h1; subst h1
          have hf := findKey_some (P := P) hd q1 W
          obtain ⟨n1, n2⟩ := h2.setMap (es2 := layE kv xv es2 j) (c2 := c0) (es' := es1.modify j fun e => { e with key := kv', val := xv' }) hh2 hφ (by simpa using MR.lay hkv hxv j k3)
          refine ⟨_, φ, ?_, n1, n2⟩
          have hj : es1[j]? = some e := by simpa using q4
          have hsame : Instr.sameBits 10000 e.key kv' = true := sameBits_of q5 10000
          simp [Instr.mapUpdate, run_underlying hu, run_getMap g2, hck, hf, hj, Instr.keyThatStays, hsame, MapKept.run_setObj_map _ g2]
      · simp [T.sel] at h
    · simp [T.sel] at h
  · simp [T.sel] at h
end
end
end Go.Proofs.YtbobnbndbgpanaaGreat.Sx
