/- The engine's contracts of flow.clone, meet and walker.set. -/
import Derived.Test.YtbobnbndbgpanaaGreatMpE
import Derived.Test.YtbobnbndbgpanaaGreatPuBase
namespace Go.Proofs.YtbobnbndbgpanaaGreat.Sx
open Go Go.RowKit Go.Proofs.YtbobnbndbgpanaaGreat.W
open Go.ChangeMaps (setBlock)
set_option linter.unusedVariables false
set_option linter.unusedSimpArgs false
noncomputable section
section
variable {β : Type}
def fN (n : Nat) (f : Nat → β) : β := Nat.rec (motive := fun _ => (Nat → β) → β) (fun f => f 0) (fun m _ f => f (Nat.succ m)) n f
theorem fN_eq (n : Nat) (f : Nat → β) : fN n f = f n := by cases n <;> rfl
def fI (n : Int) (f : Int → β) : β := Int.rec (motive := fun _ => (Int → β) → β) (fun a f => fN a (fun a => f (.ofNat a))) (fun a f => fN a (fun a => f (.negSucc a))) n f
theorem fI_eq (n : Int) (f : Int → β) : fI n f = f n := by cases n <;> exact fN_eq _ _
def fB (b : Bool) (f : Bool → β) : β := Bool.rec (motive := fun _ => β) (f false) (f true) b
theorem fB_eq (b : Bool) (f : Bool → β) : fB b f = f b := by cases b <;> rfl
/-- A list's numbers are reckoned before it is handed on. -/
def seqM : List (Int × Bool) → (List (Int × Bool) → β) → β
  | [], f => f []
  | p :: l, f => fI p.1 fun i => fB p.2 fun b => seqM l fun l => f ((i, b) :: l)
theorem seqM_eq : ∀ (l : List (Int × Bool)) (f : List (Int × Bool) → β), seqM l f = f l
  | [], f => rfl
  | p :: l, f => by simp only [seqM, fI_eq, fB_eq, seqM_eq l]
end
def litE (k v : V) : Option (Int × Bool) :=
  match k, v with
  | .int .i64 (.lit k), .bool (.lit b) => some (k, b)
  | _, _ => none
def litEs : List (V × V) → Option (List (Int × Bool))
  | [] => some []
  | p :: l => match litE p.1 p.2, litEs l with
    | some q, some r => some (q :: r)
    | _, _ => none
def keysB : List (Int × Bool) → Bool
  | [] => true
  | p :: l => l.all (fun q => !(decide (p.1 = q.1))) && keysB l
theorem keysB_ok : ∀ {l : List (Int × Bool)}, keysB l = true → keysN l
  | [], _ => by simp [keysN]
  | p :: l, h => by
    simp only [keysB, Bool.and_eq_true, List.all_eq_true] at h
    unfold keysN
    simp only [List.map_cons, List.nodup_cons]
    refine ⟨?_, keysB_ok h.2⟩
    intro hm
    obtain ⟨q, hq, e⟩ := List.mem_map.1 hm
    have := h.1 q hq
    rw [e] at this
    simp at this
def bornB : List Nat → Nat → Bool
  | [], _ => true
  | n :: l, c => Nat.blt n c && l.all (fun m => !(Nat.beq n m)) && bornB l c
theorem bornB_ok : ∀ {l : List Nat} {c : Nat}, bornB l c = true → l.Nodup ∧ ∀ n ∈ l, n < c
  | [], c, _ => by simp
  | n :: l, c, h => by
    simp only [bornB, Bool.and_eq_true, List.all_eq_true] at h
    obtain ⟨⟨h1, h2⟩, h3⟩ := h
    obtain ⟨i1, i2⟩ := bornB_ok h3
    refine ⟨List.nodup_cons.2 ⟨?_, i1⟩, ?_⟩
    · intro hm
      have := h2 n hm
      simp at this
    · intro m hm
      rcases List.mem_cons.1 hm with rfl | hm
      · simp [Nat.blt, Nat.ble_eq] at h1; omega
      · exact i2 m hm
def entsO : O → Option (List (Int × Bool))
  | .map es c => if bornB (es.map fun e => e.2.2) c then (match litEs (es.map fun e => (e.1, e.2.1)) with
    | some L => if keysB L then some L else none
    | none => none) else none
  | .pmap es => match litEs es with
    | some L => if keysB L then some L else none
    | none => none
  | _ => none
def vV (L : List (Int × Bool)) : List (V × V) := L.map fun p => (.int .i64 (.lit p.1), .bool (.lit p.2))
section
variable {η : Env} {φ : Place} {W : World}
theorem litE_ok {k v : V} {k' v' : Value} {p : Int × Bool} (hk : VR η φ k k') (hv : VR η φ v v') (h : litE k v = some p) : (k', v') = vE p := by
  unfold litE at h
  split at h
  · simp only [Option.some.injEq] at h; subst h
    cases hk; cases hv; rfl
  · simp at h
theorem litEs_mr : ∀ {l : List (V × V × Nat)} {l' : List MapEntry} {L : List (Int × Bool)}, MR η φ l l' → litEs (l.map fun e => (e.1, e.2.1)) = some L → L.map vE = ents l'
  | _, _, L, .nil, h => by simp only [List.map_nil, litEs, Option.some.injEq] at h; subst h; rfl
  | _, _, L, .cons k v k' v' n l l' hk hv t, h => by
    simp only [List.map_cons, litEs] at h
    split at h
    · rename_i q r h1 h2
      simp only [Option.some.injEq] at h; subst h
      have := litEs_mr t h2
      simp only [List.map_cons, this, ← litE_ok hk hv h1]
      rfl
    · simp at h
theorem litEs_er : ∀ {l : List (V × V)} {l' : List MapEntry} {L : List (Int × Bool)}, ER η φ l l' → litEs l = some L → L.map vE = ents l'
  | _, _, L, .nil, h => by simp only [litEs, Option.some.injEq] at h; subst h; rfl
  | _, _, L, .cons k v e l l' hk hv t, h => by
    simp only [litEs] at h
    split at h
    · rename_i q r h1 h2
      simp only [Option.some.injEq] at h; subst h
      have := litEs_er t h2
      simp only [List.map_cons, this, ← litE_ok hk hv h1]
      rfl
    · simp at h
theorem dec_ex {es l : List MapEntry} (hp : l.Perm es) {L : List (Int × Bool)} (h : L.map vE = ents l) : ∃ M, M.map vE = ents es ∧ L.Perm M := by
  let dec : Value × Value → Int × Bool := fun p => match p with
    | (.int _ k, .bool b) => (k, b)
    | _ => (0, false)
  have hd : ∀ p, dec (vE p) = p := fun p => rfl
  have h2 : (ents l).Perm (ents es) := hp.map _
  refine ⟨(ents es).map dec, ?_, ?_⟩
  · rw [List.map_map]
    have : ∀ q ∈ ents es, (vE ∘ dec) q = q := by
      intro q hq
      have := h2.mem_iff.2 hq
      rw [← h] at this
      obtain ⟨p, _, rfl⟩ := List.mem_map.1 this
      simp [Function.comp, hd]
    rw [List.map_congr_left this]; simp
  · have : L = (ents l).map dec := by
      rw [← h, List.map_map]
      have : ∀ p ∈ L, (dec ∘ vE) p = p := fun p _ => hd p
      rw [List.map_congr_left this]; simp
    rw [this]
    exact h2.map dec
theorem entsO_ok {st : St} (hs : SR η φ st W) {r : Nat} {o : O} {L : List (Int × Bool)} (hr : st.heap.get r = some o) (h : entsO o = some L) : ∃ mb s, φ r = some (mb, s) ∧ HasMap W mb L ∧ o.isDead = false ∧ o.peers = [] := by
  unfold entsO at h
  split at h
  · rename_i es c
    split at h
    case isFalse => simp at h
    rename_i hb
    split at h
    case h_2 => simp at h
    rename_i L' hl
    split at h
    case isFalse => simp at h
    rename_i hk
    simp only [Option.some.injEq] at h; subst h
    obtain ⟨mb, s, es', g1, g2, g3⟩ := hs.map hr
    have hborn : es'.toList.map (fun e => e.born) = es.map fun e => e.2.2 := (MR.born g3).symm
    obtain ⟨b1, b2⟩ := bornB_ok hb
    refine ⟨mb, s, g1, ⟨keysB_ok hk, es', c, L', g2, litEs_mr g3 hl, List.Perm.refl _, by rw [hborn]; exact b1, ?_⟩, rfl, rfl⟩
    intro e he
    apply b2
    rw [← hborn]
    exact List.mem_map.2 ⟨e, he, rfl⟩
  · rename_i es
    split at h
    case h_2 => simp at h
    rename_i L' hl
    split at h
    case isFalse => simp at h
    rename_i hk
    simp only [Option.some.injEq] at h; subst h
    obtain ⟨mb, s, es', c, l, g1, g2, g3, g4, g5, g6, g7⟩ := hs.pmap hr
    obtain ⟨M, m1, m2⟩ := dec_ex g3 (litEs_er g4 hl)
    exact ⟨mb, s, g1, ⟨keysB_ok hk, es', c, M, g2, m1, m2, g6, g7⟩, rfl, rfl⟩
  · simp at h
theorem er_of (L : List (Int × Bool)) : ∀ {es : List MapEntry}, L.map vE = ents es → ER η φ (vV L) es := by
  induction L with
  | nil =>
    intro es h
    cases es with
    | nil => exact .nil
    | cons e es => simp [ents] at h
  | cons p L ih =>
    intro es h
    cases es with
    | nil => simp [ents] at h
    | cons e es =>
      have h0 : vE p = (e.key, e.val) ∧ L.map vE = ents es := by simpa [ents] using h
      have hk : e.key = .int .i64 p.1 := by have := congrArg Prod.fst h0.1; exact this.symm
      have hv : e.val = .bool p.2 := by have := congrArg Prod.snd h0.1; exact this.symm
      exact .cons _ _ e _ _ (by rw [hk]; exact VR.int .i64 (.lit p.1)) (by rw [hv]; exact VR.bool (.lit p.2)) (ih h0.2)
theorem perm_ents {L M : List (Int × Bool)} (h : L.Perm M) : ∀ {es : List MapEntry}, M.map vE = ents es → ∃ l, l.Perm es ∧ L.map vE = ents l := by
  induction h with
  | nil => intro es h; exact ⟨es, List.Perm.refl _, h⟩
  | @cons x l1 l2 _ ih =>
    intro es h
    cases es with
    | nil => simp [ents] at h
    | cons e es =>
      have h0 : vE x = (e.key, e.val) ∧ l2.map vE = ents es := by simpa [ents] using h
      obtain ⟨l, h1, h2⟩ := ih h0.2
      exact ⟨e :: l, h1.cons e, by simp [ents, h0.1] at h2 ⊢; exact h2⟩
  | swap x y l0 =>
    intro es h
    match es, h with
    | [], h => simp [ents] at h
    | [e], h => simp [ents] at h
    | e :: f :: es, h =>
      have h0 : vE x = (e.key, e.val) ∧ vE y = (f.key, f.val) ∧ l0.map vE = ents es := by simpa [ents] using h
      exact ⟨f :: e :: es, List.Perm.swap _ _ _, by simp [ents, h0.1, h0.2.1] at h0 ⊢; exact h0⟩
  | trans _ _ ih1 ih2 =>
    intro es h
    obtain ⟨l, h1, h2⟩ := ih2 h
    obtain ⟨l2, h3, h4⟩ := ih1 h2
    exact ⟨l2, h3.trans h1, h4⟩
theorem or_pmap {mb : Nat} {L : List (Int × Bool)} (h : HasMap W mb L) (s : Nat × Nat) : OR η φ (.pmap (vV L)) s (W.heap[mb]?) := by
  obtain ⟨es, c, M, g1, g2, g3, g4, g5⟩ := h.ex
  obtain ⟨l, l1, l2⟩ := perm_ents g3 g2
  refine ⟨es, c, l, g1, l1, er_of L l2, ?_, g4, g5⟩
  have hM : keysN M := (get_perm h.keys g3).1
  unfold keysN at hM
  have h3 : (es.toList.map fun e => e.key) = M.map fun p => Value.int .i64 p.1 := by
    have := congrArg (List.map Prod.fst) g2
    simp only [List.map_map, ents] at this
    exact this.symm
  have h4 : (M.map fun p => Value.int .i64 p.1).Pairwise (· ≠ ·) := by
    rw [List.pairwise_map]
    exact (List.pairwise_map.1 hM).imp fun {a b} hne e => hne (by injection e)
  rw [← h3] at h4
  exact List.pairwise_map.1 h4
/-- An object more, at a block that none has yet. -/
theorem SR.lay {st : St} (hs : SR η φ st W) (o : O) {b : Nat} (hno : ∀ k s, φ k ≠ some (b, s)) (h2 : b < W.heap.size) (ho : ∀ φ', Mono φ φ' → φ' st.heap.size = some (b, (0, 0)) → OR η φ' o (0, 0) (W.heap[b]?)) :
    SR η (φ.put st.heap.size b (0, 0)) (st.new o) W ∧ Mono φ (φ.put st.heap.size b (0, 0)) := by
  have hm : Mono φ (φ.put st.heap.size b (0, 0)) := by
    intro k p hk
    have := (hs.dom k p.1 p.2 (by simpa using hk)).1
    unfold Place.put
    rw [if_neg (by omega)]; exact hk
  have hself : (φ.put st.heap.size b (0, 0)) st.heap.size = some (b, (0, 0)) := by unfold Place.put; rw [if_pos rfl]
  have hcase : ∀ k p, (φ.put st.heap.size b (0, 0)) k = some p → (k = st.heap.size ∧ p = (b, (0, 0))) ∨ (k ≠ st.heap.size ∧ φ k = some p) := by
    intro k p hk
    unfold Place.put at hk
    split at hk
    · rename_i e; injection hk with hk; exact .inl ⟨e, hk.symm⟩
    · rename_i e; exact .inr ⟨e, hk⟩
  refine ⟨⟨?_, ?_, ?_, hs.facts⟩, hm⟩
  · intro k o' hk hdo
    simp only [St.new, Hp.get_push] at hk
    split at hk
    · obtain ⟨b', s', g1, g2⟩ := hs.obj k o' hk hdo
      exact ⟨b', s', hm _ _ g1, g2.mono hm⟩
    · split at hk
      · rename_i e
        simp only [Option.some.injEq] at hk; subst hk
        obtain ⟨e, _⟩ := e
        subst e
        exact ⟨b, (0, 0), hself, ho _ hm hself⟩
      · simp at hk
  · intro k b' s' hk
    simp only [St.new, Hp.size_push]
    rcases hcase k _ hk with ⟨e, e2⟩ | ⟨_, hk⟩
    · simp only [Prod.mk.injEq] at e2; obtain ⟨rfl, _⟩ := e2
      exact ⟨by omega, h2⟩
    · have := hs.dom k b' s' hk
      exact ⟨by omega, this.2⟩
  · intro j k b' s s' oj ok hj hk hoj hok hdj hdk
    rcases hcase j _ hj with ⟨e1, p1⟩ | ⟨n1, hj2⟩ <;> rcases hcase k _ hk with ⟨e2, p2⟩ | ⟨n2, hk2⟩
    · exact .inl (e1.trans e2.symm)
    · simp only [Prod.mk.injEq] at p1; obtain ⟨rfl, _⟩ := p1
      exact absurd hk2 (hno k s')
    · simp only [Prod.mk.injEq] at p2; obtain ⟨rfl, _⟩ := p2
      exact absurd hj2 (hno j s)
    · have l1 := (hs.dom j _ s hj2).1
      have l2 := (hs.dom k _ s' hk2).1
      simp only [St.new, Hp.get_push] at hoj hok
      rw [if_pos l1] at hoj
      rw [if_pos l2] at hok
      exact hs.sep j k b' s s' oj ok hj2 hk2 hoj hok hdj hdk
def madeSt (L : List (Int × Bool)) (st : St) : Option (CR × St) :=
  seqM L fun L => match Arr.of [.map (some st.heap.size)] with
    | some cs => some (.ret (.ptr (some (st.heap.size + 1, 0))), (st.new (.pmap (vV L))).new (.cells cs 54 []))
    | none => none
theorem madeSt_ok {st st' : St} (hs : SR η φ st W) {L : List (Int × Bool)} {c : CR} (h : madeSt L st = some (c, st')) {e : Ending} {W' : World} (hm : Made W L e W') :
    ∃ φ', CE η φ' c e ∧ SR η φ' st' W' ∧ Ext φ φ' W W' := by
  unfold madeSt at h
  rw [seqM_eq] at h
  split at h
  case h_2 => simp at h
  rename_i cs hcs
  simp only [Option.some.injEq, Prod.mk.injEq] at h
  obtain ⟨rfl, rfl⟩ := h
  obtain ⟨nb, nm, rfl, hB, l1, l2, hnn, hfl, hN⟩ := hm.ex
  have hs0 := hs.below hB
  obtain ⟨s1, m1⟩ := hs0.lay (.pmap (vV L)) (b := nm) (fun k s hk => by have := (hs.dom k nm s hk).2; omega) hN.lt (fun φ' _ _ => or_pmap hN _)
  have hz : (st.new (.pmap (vV L))).heap.size = st.heap.size + 1 := by simp [St.new, Hp.size_push]
  obtain ⟨s2, m2⟩ := s1.lay (.cells cs 54 []) (b := nb) (fun k s hk => by
      unfold Place.put at hk
      split at hk
      · injection hk with hk; injection hk with hk _; exact hnn hk.symm
      · have := (hs.dom k nb s hk).2; omega) (Array.getElem?_eq_some_iff.1 hfl).1 (fun φ' hm' _ => by
      refine ⟨[], [.map (some nm)], [], 54, by rw [hfl]; rfl, rfl, ?_, by simp⟩
      rw [Arr.of_ok hcs]
      exact .cons _ _ _ _ (VR.map st.heap.size nm (0, 0) (hm' _ _ (by unfold Place.put; rw [if_pos rfl]))) .nil)
  refine ⟨_, ⟨_, rfl, ?_⟩, s2, ⟨m1.trans m2, ?_, hB.os, hB.tape, hB.output, hB.size, fun b hb _ => hB.block b hb⟩⟩
  · have := VR.ptr (η := η) (φ := (φ.put st.heap.size nm (0, 0)).put (st.new (.pmap (vV L))).heap.size nb (0, 0)) (st.heap.size + 1) 0 nb (0, 0) (by unfold Place.put; rw [if_pos hz.symm])
    exact this
  · intro k b s hk hn
    unfold Place.put at hk
    split at hk
    · injection hk with hk; injection hk with hk _; subst hk; exact .inl l1
    · split at hk
      · injection hk with hk; injection hk with hk _; subst hk; exact .inl l2
      · rw [hn] at hk; simp at hk
/-- A flow's entries, and its map's place. -/
def flowOf (st : St) (p : V) : Option (Nat × List (Int × Bool)) :=
  match p with
  | .ptr (some (k, 0)) => match st.cells k with
    | some cs => match cs.toList with
      | [.map (some r)] => match st.heap.get r with
        | some o => match entsO o with
          | some L => some (r, L)
          | none => none
        | none => none
      | _ => none
    | none => none
  | _ => none
theorem flowOf_ok {st : St} (hs : SR η φ st W) {p : V} {p' : Value} {r : Nat} {L : List (Int × Bool)} (hp : VR η φ p p') (h : flowOf st p = some (r, L)) :
    ∃ b o mb s ob, p' = .pointer (some ⟨b, o, none⟩) ∧ W.cell? ⟨b, o, none⟩ = some (.map (some mb)) ∧ b < W.heap.size ∧ φ r = some (mb, s) ∧ HasMap W mb L ∧ st.heap.get r = some ob ∧ ob.isDead = false ∧ ob.peers = [] := by
  unfold flowOf at h
  split at h
  case h_2 => simp at h
  rename_i k
  split at h
  case h_2 => simp at h
  rename_i cs hcs
  split at h
  case h_2 => simp at h
  rename_i r' hl
  split at h
  case h_2 => simp at h
  rename_i o ho
  split at h
  case h_2 => simp at h
  rename_i L' hL
  simp only [Option.some.injEq, Prod.mk.injEq] at h
  obtain ⟨rfl, rfl⟩ := h
  cases hp with
  | ptr _ _ b s hφ =>
  obtain ⟨b1, s1, pre, mid, post, t, g1, g2, g3, g4⟩ := hs.cells hcs
  rw [hφ] at g1; injection g1 with g1; injection g1 with e1 e2; subst e1; subst e2
  rw [hl] at g4
  cases g4 with
  | cons _ v' _ _ hv ht =>
  cases ht
  cases hv with
  | map _ mb sm hm =>
  obtain ⟨mb2, s2, q1, q2, q3, q4⟩ := entsO_ok hs ho hL
  rw [hm] at q1; injection q1 with q1; injection q1 with e1 e2; subst e1; subst e2
  refine ⟨b, s.1 + 0, mb, sm, o, rfl, ?_, (hs.dom k b s hφ).2, hm, q2, ho, q3, q4⟩
  rw [cell_of_row _ _ _ _ t (0, 0) g2]
  simp [← g3]
def cloneG (args : List V) (st : St) : Option (CR × St) :=
  match args with
  | [p] => match flowOf st p with
    | some q => madeSt q.2 st
    | none => none
  | _ => none
def meetG (args : List V) (st : St) : Option (CR × St) :=
  match args with
  | [.ptr none, b] => match flowOf st b with
    | some q => madeSt q.2 st
    | none => none
  | [a, .ptr none] => match flowOf st a with
    | some q => madeSt q.2 st
    | none => none
  | [a, b] => match flowOf st a, flowOf st b with
    | some q, some r => madeSt (orAll q.2 r.2) st
    | _, _ => none
  | _ => none
def setG (args : List V) (st : St) : Option (CR × St) :=
  match args with
  | [.ptr (some (kw, 0)), .int .i64 (.lit k), .bool (.lit v)] => match st.cells kw with
    | some cs => match cs.toList with
      | _ :: p :: _ => match flowOf st p with
        | some q => if decide (0 ≤ k) then seqM (Go.Proofs.YtbobnbndbgpanaaGreat.W.setL k v q.2) fun L => some (.ret (.tuple []), { st with heap := st.heap.set q.1 (.pmap (vV L)) }) else none
        | none => none
      | _ => none
    | none => none
  | _ => none
def Summary.put2 (sm : Summary) (f : FuncId) (g : List V → St → Option (CR × St)) : Summary := fun k => if k = f then some g else sm k
theorem SumOk.put2 {P : Program} {sm : Summary} (hsm : SumOk η P sm) {f : FuncId} {g : List V → St → Option (CR × St)}
    (h : ∀ args st c st', g args st = some (c, st') → ∀ φ args' W, VRs η φ args args' → SR η φ st W → Calls P f args'.toArray W fun e W' => ∃ φ', CE η φ' c e ∧ SR η φ' st' W' ∧ Ext φ φ' W W') :
    SumOk η P (sm.put2 f g) := by
  intro k args st c st' hk φ args' W hargs hs
  unfold sumV Summary.put2 at hk
  by_cases e : k = f
  · subst e
    rw [if_pos rfl] at hk
    exact h args st c st' hk φ args' W hargs hs
  · rw [if_neg e] at hk
    exact hsm k args st c st' hk φ args' W hargs hs
theorem made_clone {W : World} {b o mb : Nat} {L : List (Int × Bool)} (hm : HasMap W mb L) (hc : W.cell? ⟨b, o, none⟩ = some (.map (some mb))) (hb : b < W.heap.size) : Calls Tryz.prog 100 #[.pointer (some ⟨b, o, none⟩)] W (Made W L) :=
  (clone_calls W b o mb L hm hc hb).mono fun e w' h => ⟨h⟩
def flSum (sm : Summary) : Summary := ((sm.put2 100 cloneG).put2 55 meetG).put2 29 setG
theorem flSum_ok {sm : Summary} (hsm : SumOk η Tryz.prog sm) : SumOk η Tryz.prog (flSum sm) := by
  refine SumOk.put2 (SumOk.put2 (SumOk.put2 hsm ?_) ?_) ?_
  · intro args st c st' hg φ args' W hargs hs
    unfold cloneG at hg
    split at hg
    case h_2 => simp at hg
    rename_i p
    split at hg
    case h_2 => simp at hg
    rename_i q hq
    obtain ⟨r, L⟩ := q
    cases hargs with
    | cons _ p' _ _ hp ht =>
    cases ht
    obtain ⟨b, o, mb, s, ob, rfl, hc, hb, _, hm, _⟩ := flowOf_ok hs hp hq
    exact (made_clone hm hc hb).mono fun e W' hM => madeSt_ok hs hg hM
  · intro args st c st' hg φ args' W hargs hs
    unfold meetG at hg
    split at hg
    · rename_i p
      split at hg
      case h_2 => simp at hg
      rename_i q hq
      obtain ⟨r, L⟩ := q
      cases hargs with
      | cons _ p0 _ _ hp0 ht =>
      cases ht with
      | cons _ p' _ _ hp ht =>
      cases ht
      cases hp0
      obtain ⟨b, o, mb, s, ob, rfl, hc, hb, _, hm, _⟩ := flowOf_ok hs hp hq
      exact (meet_right W b o mb L hm hc hb).mono fun e W' hM => madeSt_ok hs hg hM
    · rename_i p
      split at hg
      case h_2 => simp at hg
      rename_i q hq
      obtain ⟨r, L⟩ := q
      cases hargs with
      | cons _ p' _ _ hp ht =>
      cases ht with
      | cons _ p0 _ _ hp0 ht =>
      cases ht
      cases hp0
      obtain ⟨b, o, mb, s, ob, rfl, hc, hb, _, hm, _⟩ := flowOf_ok hs hp hq
      exact (meet_left W b o mb L hm hc hb).mono fun e W' hM => madeSt_ok hs hg hM
    · rename_i p p2 _ _
      split at hg
      case h_2 => simp at hg
      rename_i q r hq hr
      obtain ⟨r1, L1⟩ := q
      obtain ⟨r2, L2⟩ := r
      cases hargs with
      | cons _ p' _ _ hp ht =>
      cases ht with
      | cons _ p2' _ _ hp2 ht =>
      cases ht
      obtain ⟨b, o, mb, s, ob, rfl, hc, hb, _, hm, _⟩ := flowOf_ok hs hp hq
      obtain ⟨b2, o2, mb2, s2, ob2, rfl, hc2, hb2, _, hm2, _⟩ := flowOf_ok hs hp2 hr
      exact (meet_both W b o mb b2 o2 mb2 L1 L2 hm hc hb hm2 hc2 hb2).mono fun e W' hM => madeSt_ok hs hg hM
    · simp at hg
  · intro args st c st' hg φ args' W hargs hs
    unfold setG at hg
    split at hg
    case h_2 => simp at hg
    rename_i kw k v
    split at hg
    case h_2 => simp at hg
    rename_i cs hcs
    split at hg
    case h_2 => simp at hg
    rename_i p0 p l hl
    split at hg
    case h_2 => simp at hg
    rename_i q hq
    obtain ⟨r, L⟩ := q
    split at hg
    case isFalse => simp at hg
    rename_i hk
    have hk : 0 ≤ k := of_decide_eq_true hk
    rw [seqM_eq] at hg
    simp only [Option.some.injEq, Prod.mk.injEq] at hg
    obtain ⟨rfl, rfl⟩ := hg
    cases hargs with
    | cons _ w' _ _ hw ht =>
    cases ht with
    | cons _ k' _ _ hk' ht =>
    cases ht with
    | cons _ v' _ _ hv' ht =>
    cases ht
    cases hk'
    cases hv'
    cases hw with
    | ptr _ _ b s hφ =>
    obtain ⟨b1, s1, pre, mid, post, t, g1, g2, g3, g4⟩ := hs.cells hcs
    rw [hφ] at g1; injection g1 with g1; injection g1 with e1 e2; subst e1; subst e2
    rw [hl] at g4
    cases g4 with
    | cons _ x0 _ mid1 hx0 ht =>
    cases ht with
    | cons _ x1 _ mid2 hx1 ht2 =>
    obtain ⟨f, o, mb, sm', ob, rfl, hc, hb, hφr, hm, hget, hd, hpe⟩ := flowOf_ok hs hx1 hq
    have hcell : W.cell? ⟨b, s.1 + 0 + 1, none⟩ = some (.pointer (some ⟨f, o, none⟩)) := by
      rw [cell_of_row _ _ _ _ t (0, 0) g2]
      simp [← g3]
    refine (set_calls W b (s.1 + 0) f o mb L k v hk hm hcell hc).mono ?_
    rintro e W' ⟨rfl, ob', rfl, hm'⟩
    obtain ⟨n1, n2⟩ := hs.setO (o2 := .pmap (vV (Go.Proofs.YtbobnbndbgpanaaGreat.W.setL k v L))) (ob := ob') hget hφr hd hpe rfl (by
      have := or_pmap (η := η) (φ := φ) hm' sm'
      have hmb : mb < W.heap.size := hm.lt
      rwa [show (setBlock W mb ob').heap[mb]? = some ob' from by simp [setBlock, hmb]] at this)
    exact ⟨φ, ⟨_, rfl, .tuple [] [] .nil⟩, n1, n2⟩
end
end
end Go.Proofs.YtbobnbndbgpanaaGreat.Sx
