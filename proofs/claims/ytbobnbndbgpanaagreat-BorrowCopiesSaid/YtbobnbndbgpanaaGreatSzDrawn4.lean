/- Regions whose order is open: the whole. -/
import Derived.Test.YtbobnbndbgpanaaGreatSzDrawn3
namespace Go.Proofs.YtbobnbndbgpanaaGreat.Sx
open Go
set_option linter.unusedVariables false
set_option linter.unusedSimpArgs false
noncomputable section

section
variable {η : Env} {P : Program} {ops : Array Oper}

theorem told_ord {items : List (Nat × Nat)} (hplan : planB ops items = true) {l : List Sp} {a : Regs} {h : Hp} {b : List Hp} {a' : Regs} {h' : Hp} (hsmall : a.size ≤ 400) (hlen : l.length ≤ items.length)
    (hl : ∀ (p : Nat) (s : Sp) (it : Nat × Nat), l[p]? = some s → items[p]? = some it → s.i = it.1 ∧ SpOk η P ops it.2 s ∧ Mod η s.a s.h) (hc : Chain l a h b a' h') : Ord η P ops l a h b ∧ (l.map (·.i) = (items.take l.length).map Prod.fst) := by
  have hchk : chk ops (masks ops) [] items = true := by unfold planB at hplan; rw [Bool.and_eq_true] at hplan; exact hplan.1
  have hmap : l.map (·.i) = (items.take l.length).map Prod.fst := by
    refine List.ext_getElem? fun p => ?_
    by_cases hp : p < l.length
    · have hs : l[p]? = some l[p] := by simp [hp]
      have hit : items[p]? = some items[p] := by simp [show p < items.length by omega]
      rw [List.getElem?_map, List.getElem?_map, hs, List.getElem?_take, if_pos hp, hit]
      simp [(hl p _ _ hs hit).1]
    · rw [List.getElem?_eq_none (by simp; omega), List.getElem?_eq_none (by simp; omega)]
  have at' : ∀ (p : Nat) (s : Sp), l[p]? = some s → ∃ it, items[p]? = some it ∧ s.i = it.1 ∧ SpOk η P ops it.2 s ∧ Mod η s.a s.h ∧ PlanAt ops ((l.take p).map (·.i)) s.i it.2 s.o := by
    intro p s hs
    have hp : p < l.length := (List.getElem?_eq_some_iff.1 hs).1
    have hit : items[p]? = some items[p] := by simp [show p < items.length by omega]
    obtain ⟨e1, e2, e3⟩ := hl p s _ hs hit
    obtain ⟨o, ho⟩ := chk_at items [] hchk p _ hit
    have hpre : (l.take p).map (·.i) = (items.take p).map Prod.fst := by
      rw [List.map_take, hmap, ← List.map_take, List.take_take]
      rw [show min p l.length = p by omega]
    have : o = s.o := by
      have h1 := ho.op
      have h2 := e2.1
      rw [← e1, h2] at h1; injection h1 with h1; exact h1.symm
    subst this
    refine ⟨_, hit, e1, e2, e3, ?_⟩
    rw [hpre, e1]; simpa using ho
  have idx : ∀ (p q : Nat) (s : Sp), p < q → l[p]? = some s → s.i ∈ (l.take q).map (·.i) := by
    intro p q s hpq hs
    refine List.mem_map.2 ⟨s, ?_, rfl⟩
    have : (l.take q)[p]? = some s := by rw [List.getElem?_take, if_pos hpq]; exact hs
    exact List.mem_of_getElem? this
  refine ⟨⟨hsmall, ?_, ?_, ?_, ?_, ?_⟩, hmap⟩
  · intro p s hs
    obtain ⟨it, _, _, e2, _, pl⟩ := at' p s hs
    refine ⟨it.2, e2, pl.few.imp id fun h => ?_⟩
    rw [List.countP_map] at h
    exact h
  · intro p s hs; obtain ⟨it, _, _, _, e3, _⟩ := at' p s hs; exact e3
  · exact chain_at hc
  · intro p q s s' hs hs' he
    rcases Nat.lt_trichotomy p q with c | c | c
    · obtain ⟨it, _, _, _, _, pl⟩ := at' q s' hs'
      exact absurd (idx p q s c hs) (by rw [he]; exact pl.new)
    · exact c
    · obtain ⟨it, _, _, _, _, pl⟩ := at' p s hs
      exact absurd (idx q p s' c hs') (by rw [← he]; exact pl.new)
  · intro p q s s' hpq hs hs'
    obtain ⟨it, _, _, e2, _, pl⟩ := at' q s' hs'
    obtain ⟨itp, _, _, e2p, _, _⟩ := at' p s hs
    refine (pl.ahead s.i (idx p q s hpq hs)).imp id fun h => ⟨h.1, ?_⟩
    have := h.2
    unfold apartB at this
    rw [e2p.1, e2.1] at this
    exact this

/-- What the run of one order comes to, every order comes to. -/
theorem wp_drawn (hP : Plain P) (hM : P.follows .mixedOrders = true) {call : CallF} (hcall : CallOk η P call) {id : Nat} {items : List (Nat × Nat)} (hplan : planB ops items = true) {a : Regs} {st : St} {ox : Ox}
    (h : (runD P call ops (masks ops) items a st [st.heap]).sel η = some ox) {φ : Place} {A : Act} {W : World} (ha : AR η φ a A) (hs : SR η φ st W) {Q : Exit → Act → World → Prop} (hq : OxPost η φ W ox Q) :
    (Code.region id ops true).wp P Q A W := by
  refine wp_region_any hM ?_
  have hs0 : SR η φ st { W with drawn := W.drawn + 1 } := ⟨hs.obj, hs.dom, hs.sep, hs.facts⟩
  have hext : ∀ φ' W', Ext φ φ' { W with drawn := W.drawn + 1 } W' → Ext φ φ' W W' := fun φ' W' x => ⟨x.mono, x.fresh, x.os, x.tape, x.output, x.size, x.block⟩
  obtain ⟨l, hlen, hl, hend⟩ := runD_told hP hcall ops items a st [st.heap] ox (by simp) (Hp.le_refl _) ⟨φ, A, _, ha, hs0⟩ h
  have hchk : chk ops (masks ops) [] items = true := by unfold planB at hplan; rw [Bool.and_eq_true] at hplan; exact hplan.1
  have hchain : ∃ a' h', Chain l a st.heap [st.heap] a' h' := by
    cases ox with
    | ok a' st' => exact ⟨_, _, hend.2.1⟩
    | pan v a' st' => obtain ⟨h1, it, rest, o, _, c, _⟩ := hend; exact ⟨_, _, c⟩
  obtain ⟨a1, h1, hc⟩ := hchain
  obtain ⟨O, hmap⟩ := told_ord hplan ha.small hlen hl hc
  have hb : ∃ x t, [st.heap] = x :: t ∧ Hp.le x st.heap := ⟨_, _, rfl, Hp.le_refl _⟩
  have planAt : ∀ (q : Nat) (it : Nat × Nat), items[q]? = some it → ∃ o, PlanAt ops ((items.take q).map Prod.fst) it.1 it.2 o := fun q it hit => by
    obtain ⟨o, ho⟩ := chk_at items [] hchk q it hit
    exact ⟨o, by simpa using ho⟩
  have prevL : ∀ (q : Nat), q ≤ l.length → ∀ i ∈ (items.take q).map Prod.fst, ∃ (p : Nat) (s : Sp), p < q ∧ l[p]? = some s ∧ s.i = i := by
    intro q hq i hi
    have : (items.take q).map Prod.fst = (l.take q).map (·.i) := by
      rw [List.map_take (f := fun x : Sp => x.i), hmap, ← List.map_take, List.take_take, show min q l.length = q by omega]
    rw [this] at hi
    obtain ⟨s, hs1, hs2⟩ := List.mem_map.1 hi
    obtain ⟨p, hp, e⟩ := List.getElem_of_mem hs1
    refine ⟨p, s, by simp at hp; omega, ?_, hs2⟩
    rw [← e, List.getElem_take]; simp at hp; simp [hp]
  -- all ahead is executed: ready
  have readyAt : ∀ (listed : Array Bool) (q : Nat) (it : Nat × Nat), q ≤ l.length → items[q]? = some it → (∀ (p : Nat) (s : Sp), p < q → l[p]? = some s → ex listed s = true) → listed.getD it.1 true = false → it.1 ∈ Region.ready .any ops listed := by
    intro listed q it hq hit hall hno
    obtain ⟨o, ho⟩ := planAt q it hit
    rw [mem_ready]
    refine ⟨hno, o, ho.op, fun e he hbd => ?_⟩
    obtain ⟨p, s, hp, hs', hi⟩ := prevL q hq _ (ho.deps e he hbd)
    rw [← hi]; exact hall p s hp hs'
  have notTrue : ∀ (listed : Array Bool) (i : Nat), listed.size = ops.size → i < ops.size → listed.getD i false = false → listed.getD i true = false := by
    intro listed i hsz hi h
    have : i < listed.size := by rw [hsz]; exact hi
    simp only [Array.getD, this, dif_pos] at h ⊢; exact h
  -- where no operation is ready, all are executed
  have fin' : ∀ (k : Nat) (listed : Array Bool) (A' : Act) (W' : World), RelK η l a st.heap φ { W with drawn := W.drawn + 1 } k listed A' W' → Down ops listed → listed.size = ops.size →
      (∀ i, listed.getD i false = true → ∃ (p : Nat) (s : Sp), l[p]? = some s ∧ s.i = i) → Region.ready .any ops listed = [] → Q .normal A' W' := by
    intro k listed A' W' hrel hd hsz hin hnone
    obtain ⟨k', hrel', hmax⟩ := hrel.absorbs O _ k rfl
    have hall := hrel'.2.1
    have hkl := hrel'.1
    have hk' : k' = l.length := by
      rcases Nat.lt_or_ge k' l.length with c | c
      · exfalso
        have hsx : l[k']? = some l[k'] := by simp [c]
        have hit : items[k']? = some items[k'] := by simp [show k' < items.length by omega]
        obtain ⟨e1, e2, _⟩ := hl k' _ _ hsx hit
        have hex := hmax _ hsx
        have hlt : l[k'].i < ops.size := (Array.getElem?_eq_some_iff.1 e2.1).1
        have := readyAt listed k' _ (by omega) hit hall (notTrue listed _ hsz (by rw [← e1]; exact hlt) (by rw [← e1]; exact hex))
        rw [hnone] at this; simp at this
      · omega
    subst hk'
    cases ox with
    | pan v a' st' =>
      exfalso
      obtain ⟨h1', it, rest, o, e1, _, e3, _⟩ := hend
      have hit : items[l.length]? = some it := by
        have : (items.drop l.length)[0]? = some it := by rw [e1]; rfl
        simpa using this
      have hlt : it.1 < ops.size := (Array.getElem?_eq_some_iff.1 e3).1
      have hno : listed.getD it.1 false = false := by
        cases hx : listed.getD it.1 false with
        | false => rfl
        | true =>
          obtain ⟨p, s, hp, hi⟩ := hin _ hx
          have hpl : p < l.length := (List.getElem?_eq_some_iff.1 hp).1
          obtain ⟨o', ho'⟩ := planAt _ _ hit
          have hmem : it.1 ∈ (items.take l.length).map Prod.fst := by
            rw [← hmap, ← hi]; exact List.mem_map.2 ⟨s, List.mem_of_getElem? hp, rfl⟩
          exact absurd hmem ho'.new
      have := readyAt listed _ _ (Nat.le_refl _) hit hall (notTrue listed _ hsz hlt hno)
      rw [hnone] at this; simp at this
    | ok a' st' =>
      obtain ⟨e1, e2, e3⟩ := hend
      obtain ⟨_, _, _, φ', b, g1, g2, g3, g4, g5, m⟩ := hrel'
      obtain ⟨c1, c2⟩ := chain_end e2
      refine hq φ' A' W' ?_ ?_ (hext _ _ g1)
      · refine ⟨?_, ?_, fun t => ?_, ?_⟩
        · rw [c1, regAt_size, ← g3]; exact g2.size
        · rw [c1, regAt_size]; exact O.small
        · have : a'.get t = b.get t := by
            rw [g5, c1, regAt_get _ _ _ _ O.small]
            refine (val_agree l _ _ fun q s' hq' _ => ?_).symm
            exact ⟨fun _ => (List.getElem?_eq_some_iff.1 hq').1, fun h => hall q s' h hq'⟩
          rw [this]; exact g2.tmps t
        · rw [c1, regAt_defs, ← g4]; exact g2.defers
      · have hm0 : Memo η l st.heap l.length listed φ' W' := m
        refine ⟨?_, ?_, ?_, e3⟩
        · rw [c2]; exact m.obj
        · intro κ bb ss hκ
          obtain ⟨d1, d2⟩ := m.dom κ bb ss hκ
          rcases d2 with d2 | ⟨p, s', n, q1, q2, _⟩
          · rw [c2]; exact ⟨d2, d1⟩
          · have := (List.getElem?_eq_some_iff.1 q2).1; omega
        · rw [c2]; exact m.sep
  have main : ∀ (fuel k : Nat) (listed : Array Bool) (A' : Act) (W' : World), RelK η l a st.heap φ { W with drawn := W.drawn + 1 } k listed A' W' → Down ops listed → listed.size = ops.size →
      (∀ i, listed.getD i false = true → ∃ (p : Nat) (s : Sp), l[p]? = some s ∧ s.i = i) → left listed ≤ fuel → wpAny P .any ops Q fuel listed A' W' := by
    intro fuel
    induction fuel with
    | zero =>
      intro k listed A' W' hrel hd hsz hin hf
      have hnone : Region.ready .any ops listed = [] := by
        refine List.eq_nil_iff_forall_not_mem.2 fun i hi => ?_
        rw [mem_ready] at hi
        obtain ⟨e1, o, e2, _⟩ := hi
        have hlt : i < listed.size := by rw [hsz]; exact (Array.getElem?_eq_some_iff.1 e2).1
        have e3 := left_zero (by omega) i hlt
        simp only [Array.getD, hlt, dif_pos] at e1 e3
        rw [e3] at e1; simp at e1
      exact ⟨hnone, fin' k listed A' W' hrel hd hsz hin hnone⟩
    | succ fuel ih =>
      intro k0 listed A' W' hrel0 hd hsz hin hf
      refine ⟨fun hnone => fin' k0 listed A' W' hrel0 hd hsz hin hnone, fun i hi => ?_⟩
      obtain ⟨k, hrel, hmax⟩ := hrel0.absorbs O _ k0 rfl
      rw [mem_ready] at hi
      obtain ⟨e1, o, e2, e3⟩ := hi
      have hlt : i < ops.size := (Array.getElem?_eq_some_iff.1 e2).1
      have hlt' : i < listed.size := by rw [hsz]; exact hlt
      have hr : Rdy ops listed i := ⟨o, e2, e3⟩
      have hno : listed[i]? = some false := by
        simp only [Array.getD, hlt', dif_pos] at e1
        rw [Array.getElem?_eq_getElem hlt']; exact congrArg _ e1
      have hnf : listed.getD i false = false := by simp [Array.getD_eq_getD_getElem?, hno]
      have hd' : Down ops (listed.setIfInBounds i true) := by
        intro j hj
        by_cases c : j = i
        · subst c; exact ⟨o, e2, fun e he hbd => getD_set_true (e3 e he hbd)⟩
        · rw [getD_set_ne false (fun q => c q.symm)] at hj
          obtain ⟨o', q1, q2⟩ := hd j hj
          exact ⟨o', q1, fun e he hbd => getD_set_true (q2 e he hbd)⟩
      have hleft : left (listed.setIfInBounds i true) ≤ fuel := by have := left_set hno; omega
      obtain ⟨q, it, hit, hiti⟩ := plan_all hplan hlt
      obtain ⟨oq, hoq⟩ := planAt q it hit
      rcases Nat.lt_or_ge q l.length with c | c
      · have hsx : l[q]? = some l[q] := by simp [c]
        obtain ⟨i1, i2, _⟩ := hl q _ _ hsx hit
        have hsi : l[q].i = i := by rw [i1, hiti]
        have hex : ex listed l[q] = false := by unfold ex; rw [hsi]; exact hnf
        have hkq : k ≤ q := by
          rcases Nat.lt_or_ge q k with c' | c'
          · have := hrel.2.1 q _ c' hsx; rw [hex] at this; simp at this
          · exact c'
        have hin' : ∀ j, (listed.setIfInBounds l[q].i true).getD j false = true → ∃ (p : Nat) (s : Sp), l[p]? = some s ∧ s.i = j := by
          intro j hj
          by_cases c' : j = l[q].i
          · exact ⟨q, _, hsx, c'.symm⟩
          · rw [getD_set_ne false (fun q => c' q.symm)] at hj; exact hin j hj
        rw [← hsi] at hr hlt' hd' hleft ⊢
        cases hk : l[q].k.eff? with
        | false =>
          exact hrel.float O hb hd hsx hkq hr hex hlt' hk fun A2 W2 r2 => ih k _ A2 W2 r2 hd' (by simpa using hsz) hin' hleft
        | true =>
          have hqk : q = k := by
            rcases Nat.lt_or_ge k q with c' | c'
            · exfalso
              have hsk : l[k]? = some l[k] := by simp [show k < l.length by omega]
              have hek := hmax _ hsk
              rcases O.pair k q _ _ c' hsk hsx with b1 | ⟨b1, _⟩
              · have := befB_ok hd b1 hr; unfold ex at hek; rw [this] at hek; simp at hek
              · have := i2.eff hk; rw [this] at b1; simp at b1
            · omega
          subst hqk
          have hkeff : l[q].k = .eff := by cases hkk : l[q].k <;> rw [hkk] at hk <;> simp [SpK.eff?] at hk ⊢
          exact hrel.effect O hd hsx hr hex hlt' hkeff fun A2 W2 r2 => ih (q + 1) _ A2 W2 r2 hd' (by simpa using hsz) hin' hleft
      · -- the panic, or what waits for it
        cases ox with
        | ok a' st' => have := (List.getElem?_eq_some_iff.1 hit).1; omega
        | pan v a' st' =>
          obtain ⟨h1', itm, rest, om, f1, f2, f3, f4, f5, f6, f7, f8, f9⟩ := hend
          have hitm : items[l.length]? = some itm := by
            have : (items.drop l.length)[0]? = some itm := by rw [f1]; rfl
            simpa using this
          rcases Nat.lt_or_ge l.length q with c' | c'
          · exfalso
            have hmem : it ∈ rest := by
              have : (items.drop l.length)[q - l.length]? = some it := by rw [List.getElem?_drop, show l.length + (q - l.length) = q by omega]; exact hit
              rw [f1, show q - l.length = (q - l.length - 1) + 1 by omega] at this
              exact List.mem_of_getElem? (by simpa using this)
            have hbef := f9 it hmem
            rw [hiti] at hbef
            have hx := befB_ok hd hbef hr
            obtain ⟨p, s, hp, hi'⟩ := hin _ hx
            obtain ⟨o', ho'⟩ := planAt _ _ hitm
            have hmem' : itm.1 ∈ (items.take l.length).map Prod.fst := by
              rw [← hmap, ← hi']; exact List.mem_map.2 ⟨s, List.mem_of_getElem? hp, rfl⟩
            exact absurd hmem' ho'.new
          · have hq' : q = l.length := by omega
            subst hq'
            rw [hit] at hitm; injection hitm with hitm; subst hitm
            rw [hiti] at f3
            have hom : o = om := by rw [e2] at f3; injection f3
            subst hom
            have hoqo : oq = o := by have := hoq.op; rw [hiti, e2] at this; injection this with this; exact this.symm
            subst hoqo
            -- all ahead of it is executed
            have hk : k = l.length := by
              rcases Nat.lt_or_ge k l.length with c2 | c2
              · exfalso
                have hsk : l[k]? = some l[k] := by simp [c2]
                have hek := hmax _ hsk
                have hmem : l[k].i ∈ (items.take l.length).map Prod.fst := by rw [← hmap]; exact List.mem_map.2 ⟨_, List.mem_of_getElem? hsk, rfl⟩
                rcases hoq.ahead _ hmem with b1 | ⟨b1, _⟩
                · rw [hiti] at b1
                  have := befB_ok hd b1 hr; unfold ex at hek; rw [this] at hek; simp at hek
                · rw [f4] at b1; simp at b1
              · have := hrel.1; omega
            subst hk
            obtain ⟨c1, c2⟩ := chain_end f2
            have hrelx := hrel
            obtain ⟨_, hall, _, _⟩ := hrelx
            obtain ⟨φ1, b, D, g1, g2, g3, g4, g5, m, r1, r2, r3⟩ := hrel.here O c1 c2 f8
            have hD : ∀ t, t ∉ D := by
              intro t ht
              obtain ⟨p, s, hp, hp', _⟩ := r3 t ht
              have := (List.getElem?_eq_some_iff.1 hp').1; omega
            have hval : ∀ t, a'.get t = b.get t := by
              intro t
              rw [g5, c1, regAt_get _ _ _ _ O.small]
              refine (val_agree l _ _ fun q s' hq' _ => ?_).symm
              exact ⟨fun _ => (List.getElem?_eq_some_iff.1 hq').1, fun h => hall q s' h hq'⟩
            have hcut : φ1.cut h1'.size = φ1 := by
              funext κ
              unfold Place.cut
              split
              · rfl
              · rename_i hge
                cases hκ : φ1 κ with
                | none => rfl
                | some pp =>
                  exfalso
                  obtain ⟨bb, ss⟩ := pp
                  rcases (m.dom κ bb ss hκ).2 with d2 | ⟨p, s', n, q1, q2, _⟩
                  · rw [← c2] at d2; exact hge d2
                  · have := (List.getElem?_eq_some_iff.1 q2).1; omega
            have harA : AR η φ1 a' A' := by
              refine ⟨?_, ?_, fun t => ?_, ?_⟩
              · rw [c1, regAt_size, ← g3]; exact g2.size
              · rw [c1, regAt_size]; exact O.small
              · rw [hval]; exact g2.tmps t
              · rw [c1, regAt_defs, ← g4]; exact g2.defers
            unfold wpOp
            rw [e2]
            simp only
            rw [if_pos (want_ok harA f5)]
            refine .inl ?_
            rw [hcut] at r2
            have hone := f6 a' φ1 A' W' (fun x _ => rfl) harA r2
            refine hone.pan fun φ2 ch W2 x1 x2 x3 => ?_
            exact hq φ2 A' W2 ch x1 (harA.mono x3.mono) (x2.with (st' := st') rfl f7) (hext _ _ (g1.trans x3))
  refine main ops.size 0 _ A _ ?_ ?_ (by simp) ?_ ?_
  · refine ⟨Nat.zero_le _, fun p s hp => by omega, fun p s _ _ he => ?_, φ, a, Ext.refl _ _, ha, rfl, rfl, fun t => ?_, ?_⟩
    · unfold ex at he; simp [Array.getD_eq_getD_getElem?, Array.getElem?_replicate] at he
      split at he <;> simp at he
    · refine (val_none l _ fun q s _ _ => ?_).symm
      unfold ex; simp [Array.getD_eq_getD_getElem?, Array.getElem?_replicate]; split <;> rfl
    · have e0 : hpAt l st.heap 0 = st.heap := by cases l <;> rfl
      refine ⟨by rw [e0]; exact hs0.obj, ?_, ?_, by rw [e0]; exact hs0.sep⟩
      · intro p s n _ _ he
        unfold ex at he; simp [Array.getD_eq_getD_getElem?, Array.getElem?_replicate] at he
        split at he <;> simp at he
      · intro κ bb ss hκ
        have := hs0.dom κ bb ss hκ
        rw [e0]; exact ⟨this.2, .inl this.1⟩
  · intro i hi
    simp [Array.getD_eq_getD_getElem?, Array.getElem?_replicate] at hi
    split at hi <;> simp at hi
  · intro i hi
    simp [Array.getD_eq_getD_getElem?, Array.getElem?_replicate] at hi
    split at hi <;> simp at hi
  · unfold left
    refine Nat.le_trans List.countP_le_length ?_
    simp
end
end
end Go.Proofs.YtbobnbndbgpanaaGreat.Sx
