/- Runs that go over maps in whatever order: all that they may come to; what such a function answers, if that is a map of known entries. -/
import Derived.Test.YthemmbebpkbmbaaSzPure
namespace Go.Proofs.Ythemmbebpkbmbaa.Sx
open Go Go.RowKit
set_option linter.unusedVariables false
set_option linter.unusedSimpArgs false
noncomputable section

abbrev Out := X × Regs × St
def nextAll (a : Regs) (st : St) (x : Operand) : Option (List (V × St)) :=
  match evalO a x with
  | some (.ptr (some (k, 0))) => match st.heap.get k with
    | some (.iter (some r) since seen last) => match st.heap.get r with
      | some (.map es c) => if es.all (fun e => Nat.blt e.2.2 since) && Nat.ble since last then
          match es.filter (fun e => !seen.contains e.2.2) with
          | [] => some [(overV, st)]
          | l => some (l.map fun e => (.tuple [.bool (.lit true), e.1, e.2.1], { st with heap := st.heap.set k (.iter (some r) since (seen ++ [e.2.2]) c) }))
        else none
      | _ => none
    | _ => none
  | _ => none
def single (t : T Out) : Option (List Out) :=
  match t with
  | .ret r => some [r]
  | _ => none
def mapAll {α : Type} (f : α → Option (List Out)) : List α → Option (List Out)
  | [] => some []
  | x :: l => match f x, mapAll f l with
    | some a, some b => some (a ++ b)
    | _, _ => none
def thenOut (f : Regs → St → Option (List Out)) (r : Out) : Option (List Out) :=
  match r with
  | (.normal, a, st) => f a st
  | r => some [r]
def blkOut (id : Nat) (r : Out) : Out :=
  match r with
  | (.exit id', a, st) => if id' = id then (.normal, a, st) else (.exit id', a, st)
  | r => r
def evAll (P : Program) (sm : Summary) (n : Nat) : Nat → Code → Regs → St → Option (List Out)
  | 0, _, _, _ => none
  | m + 1, c, a, st => match c with
    | .seq y z => match evAll P sm n m y a st with
      | some L => mapAll (thenOut (evAll P sm n m z)) L
      | none => none
    | .block id b => (evAll P sm n m b a st).map (List.map (blkOut id))
    | .loop b => match evAll P sm n m b a st with
      | some L => mapAll (thenOut (evAll P sm n m (.loop b))) L
      | none => none
    | .region id ops false => match ops.toList with
      | o :: os => match o.op, o.guard with
        | .next x false, none => match nextAll a st x with
          | some L => mapAll (fun p => single ((runOps P (callE P sm (ev P sm n) (evD P sm n)) ops os (putV a o.dst p.1) p.2).bind oxX)) L
          | none => none
        | _, _ => single (ev P sm n (.region id ops false) a st)
      | [] => single (ev P sm n (.region id ops false) a st)
    | c => single (ev P sm n c a st)

section
variable {η : Env} {P : Program}
def PostL (η : Env) (φ : Place) (W : World) (L : List Out) : Exit → Act → World → Prop := fun e A' W' => ∃ r ∈ L, Post η φ W r.1 r.2.1 r.2.2 e A' W'
theorem PostL.mono {φ : Place} {W : World} {L L' : List Out} (h : ∀ r ∈ L, r ∈ L') {e : Exit} {A : Act} {W' : World} (p : PostL η φ W L e A W') : PostL η φ W L' e A W' := by
  obtain ⟨r, h1, h2⟩ := p; exact ⟨r, h r h1, h2⟩
theorem PostL.ext {φ φ1 : Place} {W W1 : World} {L : List Out} (h : Ext φ φ1 W W1) {e : Exit} {A : Act} {W' : World} (p : PostL η φ1 W1 L e A W') : PostL η φ W L e A W' := by
  obtain ⟨r, h1, h2⟩ := p; exact ⟨r, h1, Post.ext h h2⟩
theorem mapAll_mem {α : Type} {f : α → Option (List Out)} : ∀ {l : List α} {L : List Out}, mapAll f l = some L → ∀ x ∈ l, ∃ M, f x = some M ∧ ∀ r ∈ M, r ∈ L
  | [], L, h => fun x hx => by simp at hx
  | y :: l, L, h => by
    simp only [mapAll] at h
    split at h
    · rename_i a b ha hb
      simp only [Option.some.injEq] at h; subst h
      intro x hx
      rcases List.mem_cons.1 hx with rfl | hx
      · exact ⟨a, ha, fun r hr => List.mem_append_left _ hr⟩
      · obtain ⟨M, h1, h2⟩ := mapAll_mem hb x hx
        exact ⟨M, h1, fun r hr => List.mem_append_right _ (h2 r hr)⟩
    · simp at h
theorem single_sel {t : T Out} {L : List Out} (h : single t = some L) : ∃ r, L = [r] ∧ t.sel η = some r := by
  unfold single at h
  split at h
  · rename_i r; simp only [Option.some.injEq] at h; subst h; exact ⟨r, rfl, rfl⟩
  · simp at h
theorem nextAll_ok {φ : Place} {W : World} {a : Regs} {A : Act} {st : St} {x : Operand} {ty : TypeId} {L : List (V × St)} (ha : AR η φ a A) (hs : SR η φ st W) (h : nextAll a st x = some L) :
    ∃ p ∈ L, ∃ v' W', ((do pure (.value (← Instr.next (A.eval x) false ty)) : Sem Next).run P W) = .ok (.value v') W' ∧ VR η φ p.1 v' ∧ SR η φ p.2 W' ∧ Ext φ φ W W' := by
  unfold nextAll at h
  split at h
  case h_2 => simp at h
  rename_i k hx
  have h1 := evalO_vr ha hx
  generalize A.eval x = xv at h1 ⊢
  cases h1 with
  | ptr _ _ b s hφ =>
  split at h
  case h_2 => simp at h
  rename_i rr since seen last hk
  split at h
  case h_2 => simp at h
  rename_i es c hr
  split at h
  case isFalse => simp at h
  rename_i hcond
  simp only [Bool.and_eq_true] at hcond
  obtain ⟨b1, s1, m', g1, g2, g3, g4⟩ := hs.iter hk
  rw [hφ] at g1; injection g1 with g1; injection g1 with e1 e2; subst e1; subst e2
  cases m' with
  | none => exact g4.elim
  | some bm =>
  obtain ⟨sm, g4⟩ := g4
  obtain ⟨bm1, sm1, es1, k1, k2, k3⟩ := hs.map hr
  rw [g4] at k1; injection k1 with k1; injection k1 with e1 e2; subst e1; subst e2
  have hold : ∀ y ∈ es1.toList, y.born < since := by
    have hb := MR.born k3
    intro y hy
    have : y.born ∈ es1.toList.map (·.born) := List.mem_map.2 ⟨y, hy, rfl⟩
    rw [← hb] at this
    obtain ⟨e, he1, he2⟩ := List.mem_map.1 this
    have := List.all_eq_true.1 hcond.1 e he1
    rw [← he2]
    exact bltLt this
  have hsc : since ≤ last := Nat.le_of_ble_eq_true hcond.2
  have hfil := MR.filter (fun n => !seen.contains n) k3
  have hleft : (leftOf es1 seen.toArray).toList = es1.toList.filter fun e => !seen.contains e.born := by
    unfold leftOf; simp
  rw [g2]
  rcases run_next_at (P := P) W ty b bm since last seen.toArray es1 c g3 k2 hold hsc with ⟨q1, q2⟩ | ⟨e, he, w1, hw1, q2⟩
  · have hnil : es1.toList.filter (fun e => !seen.contains e.born) = [] := by
      rw [← hleft]; exact List.eq_nil_of_length_eq_zero (by simpa using q1)
    rw [hnil] at hfil
    split at h
    · simp only [Option.some.injEq] at h; subst h
      refine ⟨(overV, st), List.mem_singleton.2 rfl, .tuple #[.bool false], W, ?_, overV_vr, hs, Ext.refl _ _⟩
      simp only [Nat.zero_add] at q2 ⊢
      simp [q2]
    · rename_i hne
      generalize hl : es.filter (fun e => !seen.contains e.2.2) = l0 at hfil hne
      cases hfil
      exact absurd rfl hne
  · rw [hleft] at he
    have hin : ∀ {l : List (V × V × Nat)} {l' : List MapEntry}, MR η φ l l' → e ∈ l' → ∃ q ∈ l, VR η φ q.1 e.key ∧ VR η φ q.2.1 e.val ∧ q.2.2 = e.born := by
      intro l l' hm
      induction hm with
      | nil => intro h; simp at h
      | cons k v k' v' n l l' hk hv t ih =>
        intro h
        rcases List.mem_cons.1 h with rfl | h
        · exact ⟨(k, v, n), by simp, hk, hv, rfl⟩
        · obtain ⟨q, a1, a2⟩ := ih h; exact ⟨q, by simp [a1], a2⟩
    obtain ⟨q, p1, p2, p3, p4⟩ := hin hfil he
    split at h
    · rename_i heq; rw [heq] at p1; simp at p1
    · simp only [Option.some.injEq] at h; subst h
      have hs1 : SR η φ st w1 := by rcases hw1 with rfl | rfl; exact hs; exact hs.drew
      have hx1 : ∀ {W' : World}, Ext φ φ w1 W' → Ext φ φ W W' := by rcases hw1 with rfl | rfl; exact fun h => h; exact fun h => h.drew
      obtain ⟨n1, n2⟩ := hs1.setO (o2 := .iter (some rr) since (seen ++ [q.2.2]) c) (ob := .mapIter (some bm) since (seen.toArray.push e.born) c) hk hφ rfl rfl rfl ⟨g2, some bm, by simp [p4], sm, g4⟩
      refine ⟨_, List.mem_map.2 ⟨q, p1, rfl⟩, .tuple #[.bool true, e.key, e.val], _, ?_, .tuple [.bool (.lit true), q.1, q.2.1] [.bool true, e.key, e.val] (.cons _ _ _ _ (.bool (.lit true)) (.cons _ _ _ _ p2 (.cons _ _ _ _ p3 .nil))), n1, hx1 n2⟩
      simp only [Nat.zero_add] at q2 ⊢
      simp [q2, ChangeMaps.setBlock]

theorem OxPost.imp {φ : Place} {W : World} {ox : Ox} {Q Q' : Exit → Act → World → Prop} (h : OxPost η φ W ox Q) (hq : ∀ e A W, Q e A W → Q' e A W) : OxPost η φ W ox Q' := by
  cases ox with
  | ok a st => exact fun φ' A' W' g1 g2 g3 => hq _ _ _ (h φ' A' W' g1 g2 g3)
  | pan v a st => exact fun φ' A' W' ch g0 g1 g2 g3 => hq _ _ _ (h φ' A' W' ch g0 g1 g2 g3)
theorem evAll_ok (hP : Plain P) (hM : P.follows .mixedOrders = true) {sm : Summary} (hsm : SumOk η P sm) (n : Nat) : ∀ m,
    (∀ c a st L, evAll P sm n m c a st = some L → ∀ φ A W, AR η φ a A → SR η φ st W → c.wp P (PostL η φ W L) A W) ∧
    (∀ b a st L, evAll P sm n m (.loop b) a st = some L → ∀ φ A W, AR η φ a A → SR η φ st W → Code.rounds P b (PostL η φ W L) m A W) := by
  obtain ⟨hev, _, hevd⟩ := ev_ok hP hM hsm n
  have hcall := callE_ok hP hsm hev hevd
  have hone : ∀ c a st L, single (ev P sm n c a st) = some L → ∀ φ A W, AR η φ a A → SR η φ st W → c.wp P (PostL η φ W L) A W := by
    intro c a st L h φ A W ha hs
    obtain ⟨r, rfl, h1⟩ := single_sel (η := η) h
    obtain ⟨x, a', st'⟩ := r
    exact wp_mono (hev c a st x a' st' h1 φ A W ha hs) fun e A' W' p => ⟨(x, a', st'), List.mem_singleton.2 rfl, p⟩
  intro m
  induction m with
  | zero => exact ⟨fun c a st L h => by simp [evAll] at h, fun b a st L h => by simp [evAll] at h⟩
  | succ m ih =>
    obtain ⟨ih, ihl⟩ := ih
    have hloop : ∀ b a st L, evAll P sm n (m + 1) (.loop b) a st = some L → ∀ φ A W, AR η φ a A → SR η φ st W → Code.rounds P b (PostL η φ W L) (m + 1) A W := by
      intro b a st L h φ A W ha hs
      simp only [evAll] at h
      split at h
      case h_2 => simp at h
      rename_i L1 h1
      rw [rounds_succ]
      refine wp_mono (ih b a st L1 h1 φ A W ha hs) ?_
      rintro e A1 W1 ⟨⟨x1, a1, st1⟩, hr, φ1, hx, ha1, hs1, he1⟩
      obtain ⟨M, hM1, hM2⟩ := mapAll_mem h _ hr
      cases x1 with
      | normal =>
        cases e <;> simp only [XR] at hx
        show Code.rounds P b _ m A1 W1
        exact rounds_mono (fun e2 A2 W2 p => (PostL.ext he1 p).mono hM2) m A1 W1 (ihl b a1 st1 M hM1 φ1 A1 W1 ha1 hs1)
      | exit i =>
        simp only [thenOut, Option.some.injEq] at hM1; subst hM1
        cases e <;> simp only [XR] at hx
        exact ⟨_, hM2 _ (List.mem_singleton.2 rfl), φ1, hx, ha1, hs1, he1⟩
      | ret =>
        simp only [thenOut, Option.some.injEq] at hM1; subst hM1
        cases e <;> simp only [XR] at hx
        exact ⟨_, hM2 _ (List.mem_singleton.2 rfl), φ1, trivial, ha1, hs1, he1⟩
      | pan v =>
        simp only [thenOut, Option.some.injEq] at hM1; subst hM1
        cases e <;> simp only [XR] at hx
        exact ⟨_, hM2 _ (List.mem_singleton.2 rfl), φ1, hx, ha1, hs1, he1⟩
    refine ⟨?_, hloop⟩
    intro c a st L h φ A W ha hs
    cases c with
    | loop b => exact wp_loop_rounds (m + 1) (hloop b a st L h φ A W ha hs)
    | seq y z =>
      simp only [evAll] at h
      split at h
      case h_2 => simp at h
      rename_i L1 h1
      refine wp_seq (wp_mono (ih y a st L1 h1 φ A W ha hs) ?_)
      rintro e A1 W1 ⟨⟨x1, a1, st1⟩, hr, φ1, hx, ha1, hs1, he1⟩
      obtain ⟨M, hM1, hM2⟩ := mapAll_mem h _ hr
      cases x1 with
      | normal =>
        cases e <;> simp only [XR] at hx
        show z.wp P _ A1 W1
        exact wp_mono (ih z a1 st1 M hM1 φ1 A1 W1 ha1 hs1) fun e2 A2 W2 p => (PostL.ext he1 p).mono hM2
      | exit i =>
        simp only [thenOut, Option.some.injEq] at hM1; subst hM1
        cases e <;> simp only [XR] at hx
        exact ⟨_, hM2 _ (List.mem_singleton.2 rfl), φ1, hx, ha1, hs1, he1⟩
      | ret =>
        simp only [thenOut, Option.some.injEq] at hM1; subst hM1
        cases e <;> simp only [XR] at hx
        exact ⟨_, hM2 _ (List.mem_singleton.2 rfl), φ1, trivial, ha1, hs1, he1⟩
      | pan v =>
        simp only [thenOut, Option.some.injEq] at hM1; subst hM1
        cases e <;> simp only [XR] at hx
        exact ⟨_, hM2 _ (List.mem_singleton.2 rfl), φ1, hx, ha1, hs1, he1⟩
    | block id b =>
      simp only [evAll] at h
      cases h1 : evAll P sm n m b a st with
      | none => rw [h1] at h; simp at h
      | some L1 =>
        rw [h1] at h
        simp only [Option.map_some, Option.some.injEq] at h; subst h
        refine wp_block (wp_mono (ih b a st L1 h1 φ A W ha hs) ?_)
        rintro e A1 W1 ⟨⟨x1, a1, st1⟩, hr, φ1, hx, ha1, hs1, he1⟩
        have hm := List.mem_map_of_mem (f := blkOut id) hr
        cases x1 with
        | normal =>
          cases e <;> simp only [XR] at hx
          exact ⟨_, hm, φ1, trivial, ha1, hs1, he1⟩
        | exit id1 =>
          cases e <;> simp only [XR] at hx
          subst hx
          show (if id1 = id then _ else _)
          by_cases hid : id1 = id
          · rw [if_pos hid]
            simp only [blkOut, if_pos hid] at hm
            exact ⟨_, hm, φ1, trivial, ha1, hs1, he1⟩
          · rw [if_neg hid]
            simp only [blkOut, if_neg hid] at hm
            exact ⟨_, hm, φ1, rfl, ha1, hs1, he1⟩
        | ret =>
          cases e <;> simp only [XR] at hx
          exact ⟨_, hm, φ1, trivial, ha1, hs1, he1⟩
        | pan v =>
          cases e <;> simp only [XR] at hx
          exact ⟨_, hm, φ1, hx, ha1, hs1, he1⟩
    | region id ops draw =>
      cases draw with
      | true => exact hone _ a st L (by simpa [evAll] using h) φ A W ha hs
      | false =>
        simp only [evAll] at h
        split at h
        · rename_i o os hops
          split at h
          · rename_i x ho hg
            split at h
            case h_2 => simp at h
            rename_i L1 h1
            obtain ⟨p, q1, v', W', q2, q3, q4, q5⟩ := nextAll_ok (P := P) (ty := o.type) ha hs h1
            obtain ⟨M, hM1, hM2⟩ := mapAll_mem h p q1
            obtain ⟨r, rfl, hr⟩ := single_sel (η := η) hM1
            obtain ⟨x1, a1, st1⟩ := r
            rw [T.sel_bind] at hr
            cases hr0 : (runOps P (callE P sm (ev P sm n) (evD P sm n)) ops os (putV a o.dst p.1) p.2).sel η with
            | none => rw [hr0] at hr; simp at hr
            | some ox =>
              rw [hr0] at hr
              refine wp_region_list ?_
              rw [hops]
              unfold wpList
              rw [if_pos (want_ok ha (.inl hg))]
              refine .inl ?_
              unfold Oper.wp
              have hex : (execOp A.eval o).run P W = .ok (.value v') W' := by unfold execOp; simp only [ho]; exact q2
              rw [hex]
              exact runOps_ok hP hcall ops _ _ _ _ hr0 φ _ W' (PostL η φ W L) (put_ar ha _ q3) q4 (OxPost.imp (oxX_post hr) fun e A2 W2 p => ⟨(x1, a1, st1), hM2 _ (List.mem_singleton.2 rfl), Post.ext q5 p⟩)
          · exact hone _ a st L h φ A W ha hs
        · exact hone _ a st L h φ A W ha hs
    | _ => exact hone _ a st L (by simpa [evAll] using h) φ A W ha hs

/-! ### Calls -/
def outRes (P : Program) (fn : Func) (r : Out) : Option (V × St) :=
  match r with
  | (x, a, st) => match x, a.defs, resultV P fn a st with
    | .normal, [], some v => some (v, st)
    | .ret, [], some v => some (v, st)
    | _, _, _ => none
def allRes (P : Program) (fn : Func) : List Out → Option (List (V × St))
  | [] => some []
  | r :: l => match outRes P fn r, allRes P fn l with
    | some p, some q => some (p :: q)
    | _, _ => none
theorem allRes_mem {fn : Func} : ∀ {l : List Out} {L : List (V × St)}, allRes P fn l = some L → ∀ r ∈ l, ∃ p ∈ L, outRes P fn r = some p
  | [], L, h => fun r hr => by simp at hr
  | y :: l, L, h => by
    simp only [allRes] at h
    split at h
    · rename_i p q hp hq
      simp only [Option.some.injEq] at h; subst h
      intro r hr
      rcases List.mem_cons.1 hr with rfl | hr
      · exact ⟨p, by simp, hp⟩
      · obtain ⟨p', h1, h2⟩ := allRes_mem hq r hr
        exact ⟨p', by simp [h1], h2⟩
    · simp at h
def callAll (P : Program) (sm : Summary) (n m : Nat) (f : FuncId) (args : List V) (st : St) : Option (List (V × St)) :=
  match P.funcs[f]? with
  | some fn => match fn.body with
    | some c => if fn.ntmps ≤ 400 ∧ args.length ≤ fn.ntmps then match evAll P sm n m c (startRegs args fn.ntmps) st with
        | some L => allRes P fn L
        | none => none
      else none
    | none => none
  | none => none
theorem callAll_ok (hP : Plain P) (hM : P.follows .mixedOrders = true) {sm : Summary} (hsm : SumOk η P sm) {n m : Nat} {f : FuncId} {args : List V} {st : St} {L : List (V × St)} (h : callAll P sm n m f args st = some L)
    {φ : Place} {args' : List Value} {W : World} (hargs : VRs η φ args args') (hs : SR η φ st W) :
    Calls P f args'.toArray W fun e W' => ∃ p ∈ L, ∃ φ' v', e = .returned v' ∧ VR η φ' p.1 v' ∧ SR η φ' p.2 W' ∧ Ext φ φ' W W' := by
  unfold callAll at h
  split at h
  case h_2 => simp at h
  rename_i fn hfn
  split at h
  case h_2 => simp at h
  rename_i c hc
  split at h
  case isFalse => simp at h
  rename_i hfit
  split at h
  case h_2 => simp at h
  rename_i L1 h1
  have hA := start_ar hargs hfit.1 hfit.2
  refine calls_of_wp_defers hfn hc (wp_mono ((evAll_ok hP hM hsm n m).1 c _ st L1 h1 φ _ W hA hs) ?_)
  rintro e A' W' ⟨⟨x, a, st1⟩, hr, φ', hx, ha', hs', hext⟩
  obtain ⟨p, hp1, hp2⟩ := allRes_mem h _ hr
  have key : ∀ v, a.defs = [] → resultV P fn a st1 = some v → (v, st1) ∈ L → Leaves P fn A'.tmps (fun e W' => ∃ p ∈ L, ∃ φ' v', e = .returned v' ∧ VR η φ' p.1 v' ∧ SR η φ' p.2 W' ∧ Ext φ φ' W W') A'.defers .returning W' := by
    intro v hd hv hm
    have hds := ha'.defers
    rw [hd] at hds
    generalize A'.defers = Ds at hds
    cases hds
    obtain ⟨v', k1, k2⟩ := run_resultV ha' hs' hv
    exact ⟨v', k1, (v, st1), hm, φ', v', rfl, k2, hs', hext⟩
  simp only [outRes] at hp2
  split at hp2
  · rename_i v hd hv
    simp only [Option.some.injEq] at hp2; subst hp2
    cases e <;> simp only [XR] at hx
    exact key v hd hv hp1
  · rename_i v hd hv
    simp only [Option.some.injEq] at hp2; subst hp2
    cases e <;> simp only [XR] at hx
    exact key v hd hv hp1
  · simp at hp2

/-! ### A function without arguments that makes a map of known entries -/
def litS : V → Option (List UInt8)
  | .str (.lit l) => some l
  | _ => none
def litsM : List (V × V × Nat) → Option (List (List UInt8 × List UInt8))
  | [] => some []
  | (k, v, _) :: l => match litS k, litS v, litsM l with
    | some a, some b, some r => some ((a, b) :: r)
    | _, _, _ => none
/-- The map that is told, as a list of texts. -/
def mapRes (p : V × St) : Option (List (List UInt8 × List UInt8)) :=
  match p.1 with
  | .map (some k) => match p.2.heap.get k with
    | some (.map es _) => litsM es
    | _ => none
  | _ => none
def textV (l : List UInt8) : V := .str (.lit l)
def entV (es : List (List UInt8 × List UInt8)) : List (V × V) := es.map fun e => (textV e.1, textV e.2)
def keysApart : List (List UInt8 × List UInt8) → Bool
  | [] => true
  | e :: l => l.all (fun f => decide (e.1 ≠ f.1)) && keysApart l
def someMap (es : List (List UInt8 × List UInt8)) (L : List (V × St)) : Bool :=
  keysApart es && L.all fun p => match mapRes p with
    | some r => decide (es.isPerm r = true)
    | none => false
theorem litsM_ok {φ : Place} : ∀ {l : List (V × V × Nat)} {l' : List MapEntry} {r : List (List UInt8 × List UInt8)}, MR η φ l l' → litsM l = some r → ER η φ (entV r) l' ∧ l'.map (fun e => e.key) = r.map fun e => .string ⟨e.1.toArray⟩
  | _, _, r, .nil, h => by simp only [litsM, Option.some.injEq] at h; subst h; exact ⟨.nil, rfl⟩
  | _, _, r, .cons k v k' v' n l l' hk hv t, h => by
    simp only [litsM] at h
    split at h
    · rename_i a b r' ha hb hr
      simp only [Option.some.injEq] at h; subst h
      obtain ⟨h1, h2⟩ := litsM_ok t hr
      have hkk : k = textV a := by
        unfold litS at ha; split at ha
        · simp only [Option.some.injEq] at ha; subst ha; rfl
        · simp at ha
      have hvv : v = textV b := by
        unfold litS at hb; split at hb
        · simp only [Option.some.injEq] at hb; subst hb; rfl
        · simp at hb
      subst hkk; subst hvv
      refine ⟨.cons _ _ ⟨k', v', n⟩ _ _ hk hv h1, ?_⟩
      cases hk
      simp [h2, S.den]
    · simp at h
theorem ER.perm {φ : Place} {es es2 : List (V × V)} (hp : es.Perm es2) : ∀ {l : List MapEntry}, ER η φ es2 l → ∃ l2, l2.Perm l ∧ ER η φ es l2 := by
  induction hp with
  | nil => intro l h; cases h; exact ⟨[], .nil, .nil⟩
  | cons x hp ih =>
    intro l h
    cases h with
    | cons k v e _ l' hk hv t =>
    obtain ⟨l2, a1, a2⟩ := ih t
    exact ⟨e :: l2, a1.cons e, .cons k v e _ _ hk hv a2⟩
  | swap x y l0 =>
    intro l h
    cases h with
    | cons k v e _ l' hk hv t =>
    cases t with
    | cons k2 v2 e2 _ l'' hk2 hv2 t2 =>
    exact ⟨e2 :: e :: l'', List.Perm.swap e e2 l'', .cons k2 v2 e2 _ _ hk2 hv2 (.cons k v e _ _ hk hv t2)⟩
  | trans p1 p2 ih1 ih2 =>
    intro l h
    obtain ⟨l2, a1, a2⟩ := ih2 h
    obtain ⟨l3, b1, b2⟩ := ih1 a2
    exact ⟨l3, b1.trans a1, b2⟩
theorem keysApart_ok : ∀ {es : List (List UInt8 × List UInt8)}, keysApart es = true → es.Pairwise fun x y => x.1 ≠ y.1
  | [], _ => .nil
  | e :: l, h => by
    simp only [keysApart, Bool.and_eq_true, List.all_eq_true, decide_eq_true_eq] at h
    exact .cons (fun f hf => h.1 f hf) (keysApart_ok h.2)
theorem SR.newOld {φ : Place} {W W' : World} {st : St} (hs : SR η φ st W) (hb : Below W.heap.size W W') (o : O) {b : Nat} (h1 : W.heap.size ≤ b) (h2 : b < W'.heap.size) (hd : o.isDead = false)
    (ho : ∀ φ', OR η φ' o (0, 0) (W'.heap[b]?)) : SR η (φ.put st.heap.size b (0, 0)) (st.new o) W' ∧ Ext φ (φ.put st.heap.size b (0, 0)) W W' := by
  have hm : Mono φ (φ.put st.heap.size b (0, 0)) := by
    intro k p hk
    have := (hs.dom k p.1 p.2 (by simpa using hk)).1
    unfold Place.put
    rw [if_neg (by omega)]; exact hk
  have hself : (φ.put st.heap.size b (0, 0)) st.heap.size = some (b, (0, 0)) := by unfold Place.put; rw [if_pos rfl]
  have hcase : ∀ k p, (φ.put st.heap.size b (0, 0)) k = some p → (k = st.heap.size ∧ p = (b, (0, 0))) ∨ (k ≠ st.heap.size ∧ φ k = some p) := by
    intro k p hk
    unfold Place.put at hk
    split at hk
    · rename_i e; injection hk with hk; exact .inl ⟨e, hk.symm⟩
    · rename_i e; exact .inr ⟨e, hk⟩
  refine ⟨⟨?_, ?_, ?_, hs.facts⟩, ⟨hm, ?_, hb.os, hb.tape, hb.output, hb.size, fun b' hb' _ => hb.block b' hb'⟩⟩
  · intro k o' hk hdo
    simp only [St.new, Hp.get_push] at hk
    split at hk
    · obtain ⟨b', s', g1, g2⟩ := hs.obj k o' hk hdo
      refine ⟨b', s', hm _ _ g1, ?_⟩
      rw [hb.block b' (hs.dom k b' s' g1).2]
      exact g2.mono hm
    · split at hk
      · rename_i e
        simp only [Option.some.injEq] at hk; subst hk
        obtain ⟨e, _⟩ := e
        subst e
        exact ⟨b, (0, 0), hself, ho _⟩
      · simp at hk
  · intro k b' s' hk
    simp only [St.new, Hp.size_push]
    rcases hcase k _ hk with ⟨e, e2⟩ | ⟨_, hk⟩
    · simp only [Prod.mk.injEq] at e2; obtain ⟨rfl, _⟩ := e2
      exact ⟨by omega, h2⟩
    · have := hs.dom k b' s' hk
      exact ⟨by omega, Nat.lt_of_lt_of_le this.2 hb.size⟩
  · intro j k b' s s' oj ok hj hk hoj hok hdj hdk
    rcases hcase j _ hj with ⟨e1, p1⟩ | ⟨n1, hj2⟩ <;> rcases hcase k _ hk with ⟨e2, p2⟩ | ⟨n2, hk2⟩
    · exact .inl (e1.trans e2.symm)
    · simp only [Prod.mk.injEq] at p1; obtain ⟨rfl, _⟩ := p1
      have := (hs.dom k _ s' hk2).2; omega
    · simp only [Prod.mk.injEq] at p2; obtain ⟨rfl, _⟩ := p2
      have := (hs.dom j _ s hj2).2; omega
    · have l1 := (hs.dom j _ s hj2).1
      have l2 := (hs.dom k _ s' hk2).1
      simp only [St.new, Hp.get_push] at hoj hok
      rw [if_pos l1] at hoj
      rw [if_pos l2] at hok
      exact hs.sep j k b' s s' oj ok hj2 hk2 hoj hok hdj hdk
  · intro k b' s' hk hn
    rcases hcase k _ hk with ⟨_, p1⟩ | ⟨_, hk⟩
    · simp only [Prod.mk.injEq] at p1; obtain ⟨rfl, _⟩ := p1
      exact .inl h1
    · rw [hn] at hk; simp at hk
/-- A function without arguments that tells a map of texts, whose entries stand in whatever order. -/
def Summary.putMap (sm : Summary) (f : FuncId) (es : List (List UInt8 × List UInt8)) : Summary := fun k => if k = f then some (fun args st => match args with
  | [] => some (.ret (.map (some st.heap.size)), st.new (.pmap (entV es)))
  | _ => none) else sm k
theorem SumOk.putMap (hP : Plain P) (hM : P.follows .mixedOrders = true) {sm : Summary} (hsm : SumOk η P sm) {n m : Nat} {f : FuncId} {es : List (List UInt8 × List UInt8)} {L : List (V × St)} (h : callAll P noSum n m f [] ⟨.none, []⟩ = some L) (hL : someMap es L = true) :
    SumOk η P (sm.putMap f es) := by
  intro k args st c st' hk φ args' W hargs hs
  unfold sumV Summary.putMap at hk
  by_cases e : k = f
  · subst e
    rw [if_pos rfl] at hk
    cases args with
    | cons _ _ => simp at hk
    | nil =>
    have hk : some (CR.ret (.map (some st.heap.size)), st.new (.pmap (entV es))) = some (c, st') := hk
    simp only [Option.some.injEq, Prod.mk.injEq] at hk
    obtain ⟨rfl, rfl⟩ := hk
    cases hargs
    refine (callAll_ok (η := η) hP hM (noSum_ok _ _) h (φ := noPlace) (args' := []) (W := W) .nil (SR.start η facts_none W)).mono ?_
    rintro e W' ⟨p, hp, φ1, v', rfl, hv, hs1, hx⟩
    have hb := hx.below
    simp only [someMap, Bool.and_eq_true, List.all_eq_true] at hL
    have h2 := hL.2 p hp
    split at h2
    case h_2 => simp at h2
    rename_i r hr
    have hperm : es.Perm r := by
      have := of_decide_eq_true h2
      exact List.isPerm_iff.1 this
    obtain ⟨v, st1⟩ := p
    unfold mapRes at hr
    simp only at hr
    split at hr
    case h_2 => simp at hr
    rename_i j
    split at hr
    case h_2 => simp at hr
    rename_i ms cl hj
    cases hv with
    | map _ b s hφ =>
    obtain ⟨b1, s1, es1, g1, g2, g3⟩ := hs1.map hj
    rw [hφ] at g1; injection g1 with g1; injection g1 with e1 e2; subst e1; subst e2
    have hfresh : W.heap.size ≤ b := by
      rcases hx.fresh j b s hφ rfl with h | ⟨j', s', h⟩
      · exact h
      · simp [noPlace] at h
    have hlt := (hs1.dom j b s hφ).2
    obtain ⟨n1, n2⟩ := SR.newOld (φ := φ) hs hb (.pmap (entV es)) hfresh hlt rfl (fun φ' => by
      have hkeys := (litsM_ok (η := η) g3 hr).2
      have her : ER η φ' (entV r) es1.toList := by
        have h0 : ∀ {l : List (V × V × Nat)} {l' : List MapEntry} {r : List (List UInt8 × List UInt8)}, MR η φ1 l l' → litsM l = some r → ER η φ' (entV r) l' := by
          intro l l' r hm
          induction hm generalizing r with
          | nil => intro h; simp only [litsM, Option.some.injEq] at h; subst h; exact .nil
          | cons k v k' v' n l l' hk hv t ih =>
            intro h
            simp only [litsM] at h
            split at h
            · rename_i a b r' ha hb' hr'
              simp only [Option.some.injEq] at h; subst h
              have hkk : k = textV a := by
                unfold litS at ha; split at ha
                · simp only [Option.some.injEq] at ha; subst ha; rfl
                · simp at ha
              have hvv : v = textV b := by
                unfold litS at hb'; split at hb'
                · simp only [Option.some.injEq] at hb'; subst hb'; rfl
                · simp at hb'
              subst hkk; subst hvv
              cases hk; cases hv
              exact .cons _ _ ⟨_, _, n⟩ _ _ (.str (.lit a)) (.str (.lit b)) (ih hr')
            · simp at h
        exact h0 g3 hr
      obtain ⟨l2, q1, q2⟩ := ER.perm (η := η) (φ := φ') (es := entV es) (es2 := entV r) (hperm.map _) her
      refine ⟨es1, cl, l2, g2, q1, q2, ?_⟩
      have hp1 := (hperm.pairwise_iff (fun {a b} (h : a.1 ≠ b.1) => h.symm)).1 (keysApart_ok hL.1)
      have hp2 : (es1.toList.map fun e => e.key).Pairwise (· ≠ ·) := by
        rw [hkeys, List.pairwise_map]
        refine hp1.imp fun {a b} hne hq => hne ?_
        injection hq with hq
        have := congrArg (fun x : ByteArray => x.data.toList) hq
        simpa using this
      exact (List.pairwise_map.1 hp2))
    exact ⟨φ.put st.heap.size b (0, 0), ⟨.map (some b), rfl, VR.map _ b (0, 0) (by unfold Place.put; rw [if_pos rfl])⟩, n1, n2⟩
  · rw [if_neg e] at hk
    exact hsm k args st c st' hk φ args' W hargs hs
def okMap (P : Program) (n m : Nat) (f : FuncId) (es : List (List UInt8 × List UInt8)) : Bool :=
  match callAll P noSum n m f [] ⟨.none, []⟩ with
  | some L => someMap es L
  | none => false
theorem SumOk.map (hP : Plain P) (hM : P.follows .mixedOrders = true) {sm : Summary} (hsm : SumOk η P sm) {n m : Nat} {f : FuncId} {es : List (List UInt8 × List UInt8)} (h : okMap P n m f es = true) : SumOk η P (sm.putMap f es) := by
  unfold okMap at h
  split at h
  · rename_i L hL; exact SumOk.putMap hP hM hsm hL h
  · simp at h
end
end
end Go.Proofs.Ythemmbebpkbmbaa.Sx
