/- The executor's operations on iterators over maps, and copy. -/
import Derived.Test.YtbobnbndbgpanaaGreatSzGrow
import Derived.Maps.RangeRun
namespace Go.Proofs.YtbobnbndbgpanaaGreat.Sx
open Go
set_option linter.unusedVariables false
set_option linter.unusedSimpArgs false
noncomputable section

section
variable {η : Env} {φ : Place} {W : World} {P : Program}

theorem SR.iter {st : St} (h : SR η φ st W) {k : Nat} {m : Option Nat} {since last : Nat} {seen : List Nat} (hk : st.heap.get k = some (.iter m since seen last)) :
    ∃ b s m', φ k = some (b, s) ∧ s.1 = 0 ∧ W.heap[b]? = some (.mapIter m' since seen.toArray last) ∧ IR φ m m' := by
  obtain ⟨b, s, h1, h2, m', h3, h4⟩ := h.obj k _ hk rfl
  exact ⟨b, s, m', h1, h2, h3, h4⟩
/-- An object without peers is laid anew. -/
theorem SR.setO {st : St} (h : SR η φ st W) {k b : Nat} {s : Nat × Nat} {o1 o2 : O} {ob : Obj} (hk : st.heap.get k = some o1) (hφ : φ k = some (b, s)) (hd1 : o1.isDead = false) (hp1 : o1.peers = []) (hp2 : o2.peers = [])
    (ho : OR η φ o2 s (some ob)) : SR η φ { st with heap := st.heap.set k o2 } { W with heap := W.heap.setIfInBounds b ob } ∧ Ext φ φ W { W with heap := W.heap.setIfInBounds b ob } := by
  have hb : b < W.heap.size := (h.dom k b s hφ).2
  have hkl : k < st.heap.size := Hp.get_lt hk
  constructor
  · constructor
    · intro j o hj hd
      simp only at hj
      rw [Hp.get_set] at hj
      split at hj
      · rename_i e; subst e
        have hj' : o2 = o := by simpa [hkl, Hp.get_few hk] using hj
        subst hj'
        exact ⟨b, s, hφ, by simpa [hb] using ho⟩
      · rename_i e
        obtain ⟨bj, sj, h1, h2⟩ := h.obj j o hj hd
        refine ⟨bj, sj, h1, ?_⟩
        have hne : b ≠ bj := by
          intro e'; subst e'
          exact e (h.peer h1 hφ hj hk hd hd1 hp1).symm
        rw [show ({ W with heap := W.heap.setIfInBounds b ob } : World).heap[bj]? = W.heap[bj]? from by simp [hne]]
        exact h2
    · intro j bj sj hj
      have := h.dom j bj sj hj
      simp only [Hp.size_set, Array.size_setIfInBounds]
      exact this
    · intro j l bj sj sl oj ol hj hl hoj hol hdj hdl
      simp only at hoj hol
      rw [Hp.get_set] at hoj hol
      have key : ∀ i bi si oi, φ i = some (bi, si) → (if k = i then (if k < st.heap.size ∧ k < 160000 then some o2 else none) else st.heap.get i) = some oi → oi.isDead = false →
          ∃ oi', st.heap.get i = some oi' ∧ oi'.isDead = false ∧ oi'.peers = oi.peers := by
        intro i bi si oi hi ho hd
        split at ho
        · rename_i e; subst e
          simp at ho; obtain ⟨_, rfl⟩ := ho
          exact ⟨_, hk, hd1, by rw [hp1, hp2]⟩
        · exact ⟨oi, ho, hd, rfl⟩
      obtain ⟨oj', a1, a2, a3⟩ := key j bj sj oj hj hoj hdj
      obtain ⟨ol', c1, c2', c3⟩ := key l bj sl ol hl hol hdl
      rw [← a3, ← c3]
      exact h.sep j l bj sj sl oj' ol' hj hl a1 c1 a2 c2'
    · exact h.facts
  · refine ⟨Mono.refl φ, fun k b s h h' => by simp [h] at h', rfl, rfl, rfl, by simp, ?_⟩
    intro b' _ hn
    have : b ≠ b' := fun e => hn k s (by rw [← e]; exact hφ)
    simp [this]

/-! ### range -/
def newIter (m : Option Nat) (c : Nat) : New := ⟨.iter m c [] c, fun k => .ptr (some (k, 0))⟩
def opRange (P : Program) (a : Regs) (st : St) (t : TypeId) (x : Operand) : T R :=
  match P.underlying t, evalO a x with
  | some (.map _ _), some (.map (some r)) => match st.heap.get r with
    | some (.map _ c) => .ret ((newIter (some r) c).put st)
    | _ => .fail 170
  | some (.map _ _), some (.map none) => .ret ((newIter none 0).put st)
  | _, _ => .fail 170
theorem opRange_ok {a : Regs} {A : Act} {st : St} {t : TypeId} {x : Operand} {r : R} (ha : AR η φ a A) (hs : SR η φ st W) (h : (opRange P a st t x).sel η = some r) :
    ResOk η φ W r ((do pure (.value (← Instr.range t (A.eval x))) : Sem Next).run P W) := by
  unfold opRange at h
  split at h
  · rename_i kt et rr hu hx
    split at h
    case h_2 => simp [T.sel] at h
    rename_i es c hm
    simp only [T.sel, Option.some.injEq] at h; subst h
    have h1 := evalO_vr ha hx
    generalize A.eval x = xv at h1 ⊢
    cases h1 with
    | map _ b s hφ =>
    obtain ⟨b1, s1, es1, g1, g2, g3⟩ := hs.map hm
    rw [hφ] at g1; injection g1 with g1; injection g1 with e1 e2; subst e1; subst e2
    refine NewOk.ok hs ⟨rfl, .mapIter (some b) c #[] c, .pointer (some ⟨W.heap.size, 0, none⟩), ?_, ?_⟩
    · simp [run_range_map W t kt et b es1 c hu g2]
    · intro φ' hm' k hk
      exact ⟨VR.ptr k 0 W.heap.size (0, 0) hk, rfl, some b, rfl, s, hm' _ _ hφ⟩
  · rename_i kt et hu hx
    simp only [T.sel, Option.some.injEq] at h; subst h
    have h1 := evalO_vr ha hx
    generalize A.eval x = xv at h1 ⊢
    cases h1 with
    | mapN =>
    refine NewOk.ok hs ⟨rfl, .mapIter none 0 #[] 0, .pointer (some ⟨W.heap.size, 0, none⟩), ?_, ?_⟩
    · simp [run_range_nilMap W t kt et hu]
    · intro φ' hm' k hk
      exact ⟨VR.ptr k 0 W.heap.size (0, 0) hk, rfl, none, rfl, trivial⟩
  · simp [T.sel] at h

/-! ### next -/
theorem bltLt {a b : Nat} (h : Nat.blt a b = true) : a < b := by simp [Nat.blt, Nat.ble_eq] at h; omega
theorem MR.born : ∀ {l : List (V × V × Nat)} {l' : List MapEntry}, MR η φ l l' → l.map (fun e => e.2.2) = l'.map (·.born)
  | _, _, .nil => rfl
  | _, _, .cons k v k' v' n l l' hk hv t => by simp [MR.born t]
theorem MR.filter (p : Nat → Bool) : ∀ {l : List (V × V × Nat)} {l' : List MapEntry}, MR η φ l l' → MR η φ (l.filter fun e => p e.2.2) (l'.filter fun e => p e.born)
  | _, _, .nil => .nil
  | _, _, .cons k v k' v' n l l' hk hv t => by
    simp only [List.filter_cons]
    split
    · exact .cons _ _ _ _ _ _ _ hk hv (MR.filter p t)
    · exact MR.filter p t
def overV : V := .tuple [.bool (.lit false)]
def opNext (a : Regs) (st : St) (x : Operand) (isStr : Bool) : T R :=
  if isStr then .fail 171 else match evalO a x with
  | some (.ptr (some (k, 0))) => match st.heap.get k with
    | some (.iter none _ _ _) => .ret (.val overV st)
    | some (.iter (some r) since seen last) => match st.heap.get r with
      | some (.map es c) => if es.all (fun e => Nat.blt e.2.2 since) && Nat.ble since last then
          match es.filter (fun e => !seen.contains e.2.2) with
          | [] => .ret (.val overV st)
          | [(kk, v, n)] => .ret (.val (.tuple [.bool (.lit true), kk, v]) { st with heap := st.heap.set k (.iter (some r) since (seen ++ [n]) c) })
          | _ => .fail 172
        else .fail 173
      | _ => .fail 174
    | _ => .fail 175
  | _ => .fail 176
theorem overV_vr : VR η φ overV (.tuple #[.bool false]) := .tuple [.bool (.lit false)] [.bool false] (.cons _ _ _ _ (.bool (.lit false)) .nil)
theorem SR.drew {st : St} (h : SR η φ st W) : SR η φ st W.drew := ⟨h.obj, h.dom, h.sep, h.facts⟩
theorem Ext.drew {φ' : Place} {W' : World} (h : Ext φ φ' W.drew W') : Ext φ φ' W W' := ⟨h.mono, h.fresh, h.os, h.tape, h.output, h.size, h.block⟩
theorem opNext_ok {a : Regs} {A : Act} {st : St} {x : Operand} {isStr : Bool} {ty : TypeId} {r : R} (ha : AR η φ a A) (hs : SR η φ st W) (h : (opNext a st x isStr).sel η = some r) :
    ResOk η φ W r ((do pure (.value (← Instr.next (A.eval x) isStr ty)) : Sem Next).run P W) := by
  unfold opNext at h
  split at h
  · simp [T.sel] at h
  rename_i hstr
  have hstr : isStr = false := by simpa using hstr
  subst hstr
  split at h
  case h_2 => simp [T.sel] at h
  rename_i k hx
  have h1 := evalO_vr ha hx
  generalize A.eval x = xv at h1 ⊢
  cases h1 with
  | ptr _ _ b s hφ =>
  split at h
  · rename_i since seen last hk
    simp only [T.sel, Option.some.injEq] at h; subst h
    obtain ⟨b1, s1, m', g1, g2, g3, g4⟩ := hs.iter hk
    rw [hφ] at g1; injection g1 with g1; injection g1 with e1 e2; subst e1; subst e2
    cases m' with
    | some _ => exact g4.elim
    | none =>
      refine ResOk.here (v' := .tuple #[.bool false]) ?_ overV_vr hs
      rw [g2]
      simp [Instr.next, getObj, Sem.run, g3]
  · rename_i rr since seen last hk
    split at h
    case h_2 => simp [T.sel] at h
    rename_i es c hr
    split at h
    case isFalse => simp [T.sel] at h
    rename_i hcond
    simp only [Bool.and_eq_true] at hcond
    obtain ⟨b1, s1, m', g1, g2, g3, g4⟩ := hs.iter hk
    rw [hφ] at g1; injection g1 with g1; injection g1 with e1 e2; subst e1; subst e2
    cases m' with
    | none => exact g4.elim
    | some bm =>
    obtain ⟨sm, g4⟩ := g4
    obtain ⟨bm1, sm1, es1, k1, k2, k3⟩ := hs.map hr
    rw [g4] at k1; injection k1 with k1; injection k1 with e1 e2; subst e1; subst e2
    have hold : ∀ y ∈ es1.toList, y.born < since := by
      have hb := MR.born k3
      intro y hy
      have : y.born ∈ es1.toList.map (·.born) := List.mem_map.2 ⟨y, hy, rfl⟩
      rw [← hb] at this
      obtain ⟨e, he1, he2⟩ := List.mem_map.1 this
      have := List.all_eq_true.1 hcond.1 e he1
      rw [← he2]
      exact bltLt this
    have hsc : since ≤ last := Nat.le_of_ble_eq_true hcond.2
    have hfil := MR.filter (fun n => !seen.contains n) k3
    have hleft : (leftOf es1 seen.toArray).toList = es1.toList.filter fun e => !seen.contains e.born := by
      unfold leftOf; simp
    rw [g2]
    rcases run_next_at (P := P) W ty b bm since last seen.toArray es1 c g3 k2 hold hsc with ⟨q1, q2⟩ | ⟨e, he, w1, hw1, q2⟩
    · have hnil : es1.toList.filter (fun e => !seen.contains e.born) = [] := by
        rw [← hleft]; exact List.eq_nil_of_length_eq_zero (by simpa using q1)
      rw [hnil] at hfil
      split at h
      · simp only [T.sel, Option.some.injEq] at h; subst h
        refine ResOk.here (v' := .tuple #[.bool false]) ?_ overV_vr hs
        simp only [Nat.zero_add] at q2 ⊢
        simp [q2]
      · rename_i heq; rw [heq] at hfil; cases hfil
      · simp [T.sel] at h
    · rw [hleft] at he
      split at h
      · rename_i heq; rw [heq] at hfil; generalize es1.toList.filter (fun e => !seen.contains e.born) = L at he hfil; cases hfil; simp at he
      · rename_i kk v n heq
        rw [heq] at hfil
        generalize es1.toList.filter (fun e => !seen.contains e.born) = L at he hfil
        cases hfil with
        | cons _ _ k' v' _ _ _ hkk hvv ht =>
        cases ht
        simp only [List.mem_singleton] at he
        subst he
        simp only [T.sel, Option.some.injEq] at h; subst h
        have hs1 : SR η φ st w1 := by rcases hw1 with rfl | rfl; exact hs; exact hs.drew
        have hx1 : ∀ {W' : World}, Ext φ φ w1 W' → Ext φ φ W W' := by rcases hw1 with rfl | rfl; exact fun h => h; exact fun h => h.drew
        obtain ⟨n1, n2⟩ := hs1.setO (o2 := .iter (some rr) since (seen ++ [n]) c) (ob := .mapIter (some bm) since (seen.toArray.push n) c) hk hφ rfl rfl rfl ⟨g2, some bm, by simp, sm, g4⟩
        refine ⟨_, _, φ, ?_, .tuple [.bool (.lit true), kk, v] [.bool true, k', v'] (.cons _ _ _ _ (.bool (.lit true)) (.cons _ _ _ _ hkk (.cons _ _ _ _ hvv .nil))), n1, hx1 n2⟩
        simp only [Nat.zero_add] at q2 ⊢
        simp [q2, ChangeMaps.setBlock]
      · simp [T.sel] at h
  · simp [T.sel] at h

/-! ### entry -/
def findN (n : Nat) : List (V × V × Nat) → Option (V × V)
  | [] => none
  | (k, v, m) :: l => if m = n then some (k, v) else findN n l
theorem findN_ok {n : Nat} : ∀ {l : List (V × V × Nat)} {l' : List MapEntry} {k v : V}, MR η φ l l' → findN n l = some (k, v) → ∃ e, l'.find? (·.born == n) = some e ∧ VR η φ k e.key ∧ VR η φ v e.val
  | _, _, k, v, .nil, h => by simp [findN] at h
  | _, _, k, v, .cons a b a' b' m l l' ha hb t, h => by
    simp only [findN] at h
    split at h
    · rename_i e; subst e
      simp only [Option.some.injEq, Prod.mk.injEq] at h; obtain ⟨rfl, rfl⟩ := h
      exact ⟨⟨a', b', m⟩, by simp, ha, hb⟩
    · rename_i e
      obtain ⟨e', h1, h2, h3⟩ := findN_ok t h
      exact ⟨e', by simp [e, h1], h2, h3⟩
def opEntry (a : Regs) (st : St) (x : Operand) : T R :=
  match evalO a x with
  | some (.ptr (some (k, 0))) => match st.heap.get k with
    | some (.iter (some r) _ seen last) => match st.heap.get r, seen.getLast? with
      | some (.map es c), some n => if c = last then match findN n es with
          | some (kk, v) => .ret (.val (.tuple [kk, v]) st)
          | none => .fail 177
        else .fail 178
      | _, _ => .fail 179
    | _ => .fail 179
  | _ => .fail 179
theorem opEntry_ok {a : Regs} {A : Act} {st : St} {x : Operand} {r : R} (ha : AR η φ a A) (hs : SR η φ st W) (h : (opEntry a st x).sel η = some r) :
    ResOk η φ W r ((do pure (.value (← Instr.entry (A.eval x))) : Sem Next).run P W) := by
  unfold opEntry at h
  split at h
  case h_2 => simp [T.sel] at h
  rename_i k hx
  have h1 := evalO_vr ha hx
  generalize A.eval x = xv at h1 ⊢
  cases h1 with
  | ptr _ _ b s hφ =>
  split at h
  case h_2 => simp [T.sel] at h
  rename_i rr since seen last hk
  split at h
  case h_2 => simp [T.sel] at h
  rename_i es c n hr hlast
  split at h
  case isFalse => simp [T.sel] at h
  rename_i hc; subst hc
  split at h
  case h_2 => simp [T.sel] at h
  rename_i kk v hf
  simp only [T.sel, Option.some.injEq] at h; subst h
  obtain ⟨b1, s1, m', g1, g2, g3, g4⟩ := hs.iter hk
  rw [hφ] at g1; injection g1 with g1; injection g1 with e1 e2; subst e1; subst e2
  cases m' with
  | none => exact g4.elim
  | some bm =>
  obtain ⟨sm, g4⟩ := g4
  obtain ⟨bm1, sm1, es1, k1, k2, k3⟩ := hs.map hr
  rw [g4] at k1; injection k1 with k1; injection k1 with e1 e2; subst e1; subst e2
  obtain ⟨e, q1, q2, q3⟩ := findN_ok k3 hf
  refine ResOk.here (v' := .tuple #[e.key, e.val]) ?_ (.tuple [kk, v] [e.key, e.val] (.cons _ _ _ _ q2 (.cons _ _ _ _ q3 .nil))) hs
  have hb : seen.toArray.back? = some n := by simpa [Array.back?_eq_getElem?, List.getLast?_eq_getElem?] using hlast
  have hf' : es1.find? (·.born == n) = some e := by rw [← Array.find?_toList]; exact q1
  rw [g2]
  simp [Instr.entry, getObj, Sem.run, g3, k2, hb, hf']

/-! ### An entry that is asked for, to be laid -/
def opMapEntry (P : Program) (a : Regs) (st : St) (t : TypeId) (m k : Operand) : T R :=
  match P.underlying t, evalO a m, evalO a k with
  | some (.map kt el), some (.map (some r)), some kv =>
    match P.underlying kt, zeroOf P el, mapOf st (some r) with
    | some d, some z, some es => if keyKind d kv then findK d kv (fun o st => match st.heap.get r with
        | some (.map es c) => match o with
          | some (i, v) => match es[i]? with
            | some (_, _, n) => .ret (.val (.tuple [v, .int .i64 (.lit n)]) { st with heap := st.heap.set r (.map (layE kv v es i) c) })
            | none => .fail 180
          | none => .ret (.val (.tuple [z, .int .i64 (.lit c)]) { st with heap := st.heap.set r (.map (es ++ [(kv, z, c)]) (c + 1)) })
        | _ => .fail 180) es 0 st
      else .fail 180
    | _, _, _ => .fail 180
  | _, _, _ => .fail 180
theorem MR.at {l : List (V × V × Nat)} {l' : List MapEntry} (h : MR η φ l l') : ∀ {i : Nat} {k v : V} {n : Nat}, l[i]? = some (k, v, n) → ∃ e, l'[i]? = some e ∧ VR η φ k e.key ∧ VR η φ v e.val ∧ e.born = n := by
  induction h with
  | nil => intro i k v n h; simp at h
  | cons a b a' b' m l l' ha hb t ih =>
    intro i k v n h
    cases i with
    | zero => simp only [List.getElem?_cons_zero, Option.some.injEq, Prod.mk.injEq] at h; obtain ⟨rfl, rfl, rfl⟩ := h; exact ⟨⟨a', b', m⟩, by simp, ha, hb, rfl⟩
    | succ i => simpa using ih (by simpa using h)
theorem MR.layKey {k v : V} {k' : Value} (hk : VR η φ k k') : ∀ {l : List (V × V × Nat)} {l' : List MapEntry} (i : Nat) (e : MapEntry), MR η φ l l' → l'[i]? = some e → VR η φ v e.val → MR η φ (layE k v l i) (l'.modify i fun e => { e with key := k' })
  | _, _, i, e, .nil, h, _ => by simp at h
  | _, _, 0, e, .cons a b a' b' m l l' ha hb t, h, hv => by
    simp at h; subst h
    simpa [layE] using MR.cons _ _ _ _ _ _ _ hk hv t
  | _, _, i + 1, e, .cons a b a' b' m l l' ha hb t, h, hv => by simpa [layE] using MR.cons _ _ _ _ _ _ _ ha hb (MR.layKey hk i e t (by simpa using h) hv)
theorem findNow_ge {d : TypeDesc} {x' : Value} : ∀ {es : List MapEntry} {i j : Nat} {w : Value}, Instr.findNow d x' es i = some (some (j, w)) → i ≤ j
  | [], i, j, w, h => by simp [Instr.findNow] at h
  | y :: es, i, j, w, h => by
    unfold Instr.findNow at h
    split at h
    · simp only [Option.some.injEq, Prod.mk.injEq] at h; omega
    · have := findNow_ge h; omega
    · simp at h
theorem findNow_at {d : TypeDesc} {x' : Value} : ∀ {es : List MapEntry} {i j : Nat} {w : Value} {e : MapEntry}, Instr.findNow d x' es i = some (some (j, w)) → es[j - i]? = some e → i ≤ j → e.val = w
  | [], i, j, w, e, h, _, _ => by simp [Instr.findNow] at h
  | y :: es, i, j, w, e, h, hj, hle => by
    unfold Instr.findNow at h
    split at h
    rotate_left 2
    · simp at h
    · simp only [Option.some.injEq, Prod.mk.injEq] at h
      obtain ⟨rfl, rfl⟩ := h
      simp at hj; rw [hj]
    · have hlt : i + 1 ≤ j := findNow_ge h
      refine findNow_at h ?_ hlt
      rw [show j - i = (j - (i + 1)) + 1 by omega] at hj
      simpa using hj
theorem opMapEntry_ok {a : Regs} {A : Act} {st : St} {t : TypeId} {m k : Operand} {r : R} (ha : AR η φ a A) (hs : SR η φ st W) (h : (opMapEntry P a st t m k).sel η = some r) :
    ResOk η φ W r ((do pure (.value (← Instr.mapEntry t (A.eval m) (A.eval k))) : Sem Next).run P W) := by
  unfold opMapEntry at h
  split at h
  · rename_i kt el rr kv hu hm hk
    split at h
    · rename_i d z es hd hz hes
      split at h
      · rename_i hkk
        have hkv := evalO_vr ha hk
        have hmv := evalO_vr ha hm
        generalize A.eval m = mv at hmv
        generalize A.eval k = kv' at hkv
        cases hmv with
        | map k0 b s hφ =>
        simp only [mapOf] at hes
        split at hes
        case h_2 => simp at hes
        rename_i es0 c0 hh
        simp only [Option.some.injEq] at hes; subst hes
        obtain ⟨b1, s1, es1, g1, g2, g3⟩ := hs.map hh
        rw [hφ] at g1; injection g1 with g1; injection g1 with e1 e2; subst e1; subst e2
        have hck : ∀ e, (Instr.checkKey e 10000 kt kv').run P W = .ok () W := fun e => checkKey_plain hd hkk hkv e 9999 W
        obtain ⟨z', hz1, hz2⟩ := run_zero hz W
        obtain ⟨q, st', h1, h2, h3⟩ := findK_sel hkk hkv es0 es1.toList 0 st g3 hs h
        split at h1
        case h_2 => simp [T.sel] at h1
        rename_i es2 c2 hh2
        obtain ⟨b2, s2, es3, k1, k2, k3⟩ := h2.map hh2
        rw [hφ] at k1; injection k1 with k1; injection k1 with e1 e2; subst e1; subst e2
        rw [g2] at k2
        injection k2 with k2; injection k2 with e1 e2; subst e1; subst e2
        cases q with
        | none =>
          simp only [T.sel, Option.some.injEq] at h1; subst h1
          have hf := findKey_some (P := P) hd h3 W
          obtain ⟨n1, n2⟩ := h2.setO (o2 := .map (es2 ++ [(kv, z, c0)]) (c0 + 1)) (ob := .map (es1.push { key := kv', val := z', born := c0 }) (c0 + 1)) hh2 hφ rfl rfl rfl ⟨_, rfl, by simpa using k3.append hkv (hz2 η φ) c0⟩
          refine ⟨_, _, φ, ?_, .tuple [z, .int .i64 (.lit c0)] [z', .int .i64 (c0 : Int)] (.cons _ _ _ _ (hz2 η φ) (.cons _ _ _ _ (.int .i64 (.lit c0)) .nil)), n1, n2⟩
          simp [Instr.mapEntry, run_underlying hu, run_getMap g2, hck, hf, hz1, MapKept.run_setObj_map _ g2, goInt]
        | some p =>
          obtain ⟨j, v⟩ := p
          obtain ⟨w, e, q1, q2, q3, q4, q5⟩ := h3
          simp only at h1
          split at h1
          case h_2 => simp [T.sel] at h1
          rename_i kk0 vv0 n hn
          simp only [T.sel, Option.some.injEq] at h1; subst h1
          have hf := findKey_some (P := P) hd q1 W
          have hj : es1[j]? = some e := by simpa using q4
          have hj' : es1.toList[j]? = some e := by simpa using q4
          obtain ⟨e2, a1, a2, a3, a4⟩ := k3.at hn
          rw [hj'] at a1; injection a1 with a1; subst a1
          have hw : e.val = w := by
            exact findNow_at q1 (by simpa using hj') (Nat.zero_le _)
          obtain ⟨n1, n2⟩ := h2.setO (o2 := .map (layE kv v es2 j) c0) (ob := .map (es1.modify j fun e => { e with key := kv' }) c0) hh2 hφ rfl rfl rfl ⟨_, rfl, by
            have := MR.layKey (v := v) hkv j e k3 hj' (by rw [hw]; exact q2)
            simpa using this⟩
          refine ⟨_, _, φ, ?_, .tuple [v, .int .i64 (.lit n)] [w, .int .i64 (n : Int)] (.cons _ _ _ _ q2 (.cons _ _ _ _ (.int .i64 (.lit n)) .nil)), n1, n2⟩
          have hsame : Instr.sameBits 10000 e.key kv' = true := sameBits_of q5 10000
          simp [Instr.mapEntry, run_underlying hu, run_getMap g2, hck, hf, hj, Instr.keyThatStays, hsame, MapKept.run_setObj_map _ g2, goInt, a4]
      · simp [T.sel] at h
    · simp [T.sel] at h
  · simp [T.sel] at h

/-! ### The entry is laid -/
def layN (n : Int) (x : V) : List (V × V × Nat) → Option (List (V × V × Nat))
  | [] => none
  | (k, v, m) :: l => if (m : Int) = n then some ((k, x, m) :: l) else (layN n x l).map ((k, v, m) :: ·)
theorem layN_ok {n : Int} {x : V} {x' : Value} (hx : VR η φ x x') : ∀ {l : List (V × V × Nat)} {l' : List MapEntry} {l2 : List (V × V × Nat)}, MR η φ l l' → layN n x l = some l2 →
    ∃ i, l'.findIdx? (fun e => (e.born : Int) == n) = some i ∧ MR η φ l2 (l'.modify i fun e => { e with val := x' })
  | _, _, l2, .nil, h => by simp [layN] at h
  | _, _, l2, .cons a b a' b' m l l' ha hb t, h => by
    simp only [layN] at h
    split at h
    · rename_i e
      simp only [Option.some.injEq] at h; subst h
      refine ⟨0, by simp [List.findIdx?_cons, e], by simpa using MR.cons _ _ _ _ _ _ _ ha hx t⟩
    · rename_i e
      cases hl : layN n x l with
      | none => rw [hl] at h; simp at h
      | some l3 =>
        rw [hl] at h; simp only [Option.map_some, Option.some.injEq] at h; subst h
        obtain ⟨i, h1, h2⟩ := layN_ok hx t hl
        refine ⟨i + 1, by simp [List.findIdx?_cons, e, h1], by simpa using MR.cons _ _ _ _ _ _ _ ha hb h2⟩
def opEntryStore (a : Regs) (st : St) (m s x : Operand) : T R :=
  match evalO a m, evalO a s, evalO a x with
  | some (.map (some r)), some (.int _ (.lit n)), some xv => match st.heap.get r with
    | some (.map es c) => match layN n xv es with
      | some es2 => .ret (.skip { st with heap := st.heap.set r (.map es2 c) })
      | none => .fail 181
    | _ => .fail 181
  | _, _, _ => .fail 181
theorem opEntryStore_ok {a : Regs} {A : Act} {st : St} {t : TypeId} {m s x : Operand} {r : R} (ha : AR η φ a A) (hs : SR η φ st W) (h : (opEntryStore a st m s x).sel η = some r) :
    ResOk η φ W r ((do Instr.entryStore t (A.eval m) (A.eval s) (A.eval x); pure .skip : Sem Next).run P W) := by
  unfold opEntryStore at h
  split at h
  case h_2 => simp [T.sel] at h
  rename_i rr kk n xv hm hsv hx
  split at h
  case h_2 => simp [T.sel] at h
  rename_i es c hh
  split at h
  case h_2 => simp [T.sel] at h
  rename_i es2 hl
  simp only [T.sel, Option.some.injEq] at h; subst h
  have h1 := evalO_vr ha hm
  have h2 := evalO_vr ha hsv
  have h3 := evalO_vr ha hx
  generalize A.eval m = mv at h1
  generalize A.eval s = sv at h2
  generalize A.eval x = xv' at h3
  cases h1 with
  | map _ b s1 hφ =>
  cases h2
  obtain ⟨b1, s2, es1, g1, g2, g3⟩ := hs.map hh
  rw [hφ] at g1; injection g1 with g1; injection g1 with e1 e2; subst e1; subst e2
  obtain ⟨i, q1, q2⟩ := layN_ok h3 g3 hl
  obtain ⟨n1, n2⟩ := hs.setO (o2 := .map es2 c) (ob := .map (es1.modify i fun e => { e with val := xv' }) c) hh hφ rfl rfl rfl ⟨_, rfl, by simpa using q2⟩
  refine ⟨_, φ, ?_, n1, n2⟩
  have q1' : es1.findIdx? (fun e => (e.born : Int) == n) = some i := by rw [← List.findIdx?_toArray] at q1; simpa using q1
  simp [Instr.entryStore, run_getMap g2, asInt, asIntOf, E.den, q1', MapKept.run_setObj_map _ g2]

/-! ### A map whose entries stand in whatever order is looked into -/
theorem SR.pmap {st : St} (h : SR η φ st W) {k : Nat} {es : List (V × V)} (hk : st.heap.get k = some (.pmap es)) :
    ∃ b s es' c l, φ k = some (b, s) ∧ W.heap[b]? = some (.map es' c) ∧ l.Perm es'.toList ∧ ER η φ es l ∧ (es'.toList.Pairwise fun x y => x.key ≠ y.key) ∧ (es'.toList.map fun e => e.born).Nodup ∧ ∀ e ∈ es'.toList, e.born < c := by
  obtain ⟨b, s, h1, es', c, l, h2, h3, h4, h5⟩ := h.obj k _ hk rfl
  exact ⟨b, s, es', c, l, h1, h2, h3, h4, h5⟩
def findP (d : TypeDesc) (x : V) : List (V × V) → Option (Option V)
  | [] => some none
  | (y, v) :: l => match keyEq x y with
    | some (.lit true) => some (some v)
    | some (.lit false) => findP d x l
    | _ => none
theorem findP_ok {d : TypeDesc} {x : V} {x' : Value} (hx : VR η φ x x') : ∀ {es : List (V × V)} {l : List MapEntry} {o : Option V}, ER η φ es l → findP d x es = some o →
    (∀ v, o = some v → ∃ e ∈ l, e.key = x' ∧ VR η φ v e.val) ∧ (o = none → ∀ e ∈ l, e.key ≠ x')
  | _, _, o, .nil, h => by
    simp only [findP, Option.some.injEq] at h; subst h
    exact ⟨fun v h => by simp at h, fun _ e he => by simp at he⟩
  | _, _, o, .cons k v e l l' hk hv t, h => by
    simp only [findP] at h
    split at h
    · rename_i hq
      simp only [Option.some.injEq] at h; subst h
      have := (keyEq_den hq hx hk).1 rfl
      refine ⟨fun w hw => ?_, fun h => by simp at h⟩
      simp only [Option.some.injEq] at hw; subst hw
      exact ⟨e, by simp, this.symm, hv⟩
    · rename_i hq
      have hne : x' ≠ e.key := fun q => by
        have := (keyEq_den hq hx hk).2 q
        simp [B.den] at this
      obtain ⟨h1, h2⟩ := findP_ok hx t h
      refine ⟨fun w hw => ?_, fun hn e' he' => ?_⟩
      · obtain ⟨e', a1, a2, a3⟩ := h1 w hw
        exact ⟨e', by simp [a1], a2, a3⟩
      · rcases List.mem_cons.1 he' with rfl | he'
        · exact fun q => hne q.symm
        · exact h2 hn e' he'
    · simp at h
theorem ER.keys {d : TypeDesc} : ∀ {es : List (V × V)} {l : List MapEntry}, ER η φ es l → (es.all fun e => keyKind d e.1) = true → ∀ e ∈ l, MapKept.IsKey d e.key
  | _, _, .nil, _ => fun e he => by simp at he
  | _, _, .cons k v e l l' hk hv t, h => fun e' he' => by
    simp only [List.all_cons, Bool.and_eq_true] at h
    rcases List.mem_cons.1 he' with rfl | he'
    · exact isKey h.1 hk
    · exact ER.keys t h.2 e' he'
theorem findNow_hit {d : TypeDesc} {x' : Value} (hx : MapKept.IsKey d x') {e0 : MapEntry} : ∀ {L : List MapEntry} (i : Nat), (∀ e ∈ L, MapKept.IsKey d e.key) → (L.Pairwise fun x y => x.key ≠ y.key) → e0 ∈ L → e0.key = x' →
    ∃ j, Instr.findNow d x' L i = some (some (j, e0.val))
  | [], i, _, _, h, _ => by simp at h
  | e :: L, i, hk, hp, hm, he => by
    obtain ⟨r, h1, h2⟩ := MapKept.sameNow_of_keys hx (hk e (by simp))
    unfold Instr.findNow
    rw [h1]
    rw [List.pairwise_cons] at hp
    by_cases hq : x' = e.key
    · rw [h2.2 hq]
      rcases List.mem_cons.1 hm with rfl | hm
      · exact ⟨i, rfl⟩
      · exact absurd (hq.symm.trans he.symm) (hp.1 e0 hm)
    · have : r = false := by cases r with
        | false => rfl
        | true => exact absurd (h2.1 rfl) hq
      rw [this]
      rcases List.mem_cons.1 hm with rfl | hm
      · exact absurd he.symm hq
      · exact findNow_hit hx (i + 1) (fun e he => hk e (by simp [he])) hp.2 hm he
theorem findNow_miss {d : TypeDesc} {x' : Value} (hx : MapKept.IsKey d x') : ∀ {L : List MapEntry} (i : Nat), (∀ e ∈ L, MapKept.IsKey d e.key) → (∀ e ∈ L, e.key ≠ x') → Instr.findNow d x' L i = some none
  | [], i, _, _ => rfl
  | e :: L, i, hk, hn => by
    obtain ⟨r, h1, h2⟩ := MapKept.sameNow_of_keys hx (hk e (by simp))
    unfold Instr.findNow
    rw [h1]
    have : r = false := by cases r with
      | false => rfl
      | true => exact absurd (h2.1 rfl).symm (hn e (by simp))
    rw [this]
    exact findNow_miss hx (i + 1) (fun e he => hk e (by simp [he])) (fun e he => hn e (by simp [he]))
def pmapOf (a : Regs) (st : St) (m : Operand) : Option (List (V × V)) :=
  match evalO a m with
  | some (.map (some r)) => match st.heap.get r with
    | some (.pmap es) => some es
    | _ => none
  | _ => none
def opLookup2 (P : Program) (a : Regs) (st : St) (t : TypeId) (m k : Operand) (ok : Bool) : T R :=
  match pmapOf a st m with
  | none => opLookup P a st t m k ok
  | some es => match P.underlying t, evalO a k with
    | some (.map kt el), some kv => match P.underlying kt, zeroOf P el with
      | some d, some z => if keyKind d kv && es.all (fun e => keyKind d e.1) then match findP d kv es with
          | some (some v) => .ret (.val (if ok then .tuple [v, .bool (.lit true)] else v) st)
          | some none => .ret (.val (if ok then .tuple [z, .bool (.lit false)] else z) st)
          | none => .fail 190
        else .fail 191
      | _, _ => .fail 192
    | _, _ => .fail 193
theorem opLookup2_ok {a : Regs} {A : Act} {st : St} {t : TypeId} {m k : Operand} {ok : Bool} {r : R} (ha : AR η φ a A) (hs : SR η φ st W) (h : (opLookup2 P a st t m k ok).sel η = some r) :
    ResF η φ W r ((do pure (.value (← Instr.lookup t (A.eval m) (A.eval k) ok)) : Sem Next).run P W) := by
  unfold opLookup2 at h
  split at h
  · exact opLookup_ok ha hs h
  rename_i es hes
  split at h
  case h_2 => simp [T.sel] at h
  rename_i kt el kv hu hk
  split at h
  case h_2 => simp [T.sel] at h
  rename_i d z hd hz
  split at h
  case isFalse => simp [T.sel] at h
  rename_i hkk
  simp only [Bool.and_eq_true] at hkk
  unfold pmapOf at hes
  split at hes
  case h_2 => simp at hes
  rename_i r0 hm
  split at hes
  case h_2 => simp at hes
  rename_i es0 hr
  simp only [Option.some.injEq] at hes; subst hes
  have hkv := evalO_vr ha hk
  have hmv := evalO_vr ha hm
  generalize A.eval m = mv at hmv
  generalize A.eval k = kv' at hkv
  cases hmv with
  | map _ b s hφ =>
  obtain ⟨b1, s1, es1, c, l, g1, g2, g3, g4, g5, _⟩ := hs.pmap hr
  rw [hφ] at g1; injection g1 with g1; injection g1 with e1 e2; subst e1
  obtain ⟨z', hz1, hz2⟩ := run_zero hz W
  have hck : ∀ e, (Instr.checkKey e 10000 kt kv').run P W = .ok () W := fun e => checkKey_plain hd hkk.1 hkv e 9999 W
  have hkx := isKey hkk.1 hkv
  have hkeys : ∀ e ∈ es1.toList, MapKept.IsKey d e.key := fun e he => ER.keys g4 hkk.2 e (g3.mem_iff.2 he)
  split at h
  · rename_i v hf
    simp only [T.sel, Option.some.injEq] at h; subst h
    obtain ⟨e, q1, q2, q3⟩ := (findP_ok hkv g4 hf).1 v rfl
    obtain ⟨j, hj⟩ := findNow_hit hkx 0 hkeys g5 (g3.mem_iff.1 q1) q2
    have hr := run_lookup ok hu (.inr ⟨b, c, rfl, g2⟩) hck (findKey_some (P := P) hd hj W) hz1
    refine ResF.here (v' := lookRes ok z' (some (j, e.val))) (by simp [hr]) ?_ hs
    cases ok
    · exact q3
    · exact .tuple _ [e.val, .bool true] (.cons _ _ _ _ q3 (.cons _ _ _ _ (.bool (.lit true)) .nil))
  · rename_i hf
    simp only [T.sel, Option.some.injEq] at h; subst h
    have hn := (findP_ok hkv g4 hf).2 rfl
    have hj := findNow_miss hkx 0 hkeys (fun e he => hn e (g3.mem_iff.2 he))
    have hr := run_lookup ok hu (.inr ⟨b, c, rfl, g2⟩) hck (findKey_some (P := P) hd hj W) hz1
    refine ResF.here (v' := lookRes ok z' none) (by simp [hr]) ?_ hs
    cases ok
    · exact hz2 η φ
    · exact .tuple _ [z', .bool false] (.cons _ _ _ _ (hz2 η φ) (.cons _ _ _ _ (.bool (.lit false)) .nil))
  · simp [T.sel] at h
end
end
end Go.Proofs.YtbobnbndbgpanaaGreat.Sx
