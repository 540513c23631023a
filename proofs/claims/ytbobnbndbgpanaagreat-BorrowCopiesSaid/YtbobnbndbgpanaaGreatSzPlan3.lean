/- The quick check of an order is the check of an order. -/
import Derived.Test.YtbobnbndbgpanaaGreatSzPlan2
namespace Go.Proofs.YtbobnbndbgpanaaGreat.Sx
open Go
set_option linter.unusedVariables false
set_option linter.unusedSimpArgs false
noncomputable section

theorem beq_iff {a b : Nat} : Nat.beq a b = true ↔ a = b := ⟨Nat.eq_of_beq_eq_true, fun h => by subst h; exact Nat.beq_refl a⟩
def dF (l : List Edge) (d : Nat) : Nat := l.foldl (fun d e => if Region.binds .any e then d ||| (1 <<< e.on) else d) d
def rF (M : Nat) (l : List Edge) (r : Nat) : Nat := l.foldl (fun r e => if Region.binds .any e then (r ||| (1 <<< e.on)) ||| mAt M e.on else r) r
theorem edgesGo_eq (M : Nat) (k : Nat → Nat → List OI) : ∀ (l : List Edge) (d r : Nat), edgesGo M k l d r = k (dF l d) (rF M l r)
  | [], d, r => rfl
  | e :: l, d, r => by
    have h : edgesGo M k (e :: l) d r = Bool.rec (motive := fun _ => List OI) (edgesGo M k l d r) (seqT (Nat.shiftLeft 1 e.on) fun b => seqT (Nat.lor d b) fun d => seqT (Nat.lor (Nat.lor r b) (mAt M e.on)) fun r => edgesGo M k l d r) (bindsF e) := rfl
    rw [h, bindsF_eq]
    simp only [seqT_eq, dF, rF, List.foldl_cons]
    cases hb : Region.binds .any e with
    | true => simp only [if_true]; rw [edgesGo_eq M k l]; rfl
    | false => simp only [Bool.false_eq_true, if_false]; rw [edgesGo_eq M k l]; rfl
theorem edgesF_eq (M : Nat) (k : Nat → Nat → List OI) (l : List Edge) : edgesF M l k = k (dF l 0) (rF M l 0) := edgesGo_eq M k l 0 0
theorem infoGo_cons (ops : Array Oper) (o : Oper) (l : List Oper) (n M : Nat) :
    infoGo ops (o :: l) n M = ⟨o, n, 1 <<< n, rF M o.after.toList 0, dF o.after.toList 0, dstBit o.dst, bitsOf (o.looksAt ops), isEff o, memless o⟩ :: infoGo ops l (n + 1) (M ||| ((rF M o.after.toList 0 % two256) <<< (256 * n))) := by
  show edgesF M o.after.toList (fun d r => seqT (Nat.shiftLeft 1 n) fun bit => seqT (dstBit o.dst) fun db => seqT (bitsOf (o.looksAt ops)) fun lk => seqBo (memless o) fun ml => seqBo (isEff o) fun ef => .cons (.mk o n bit r d db lk ef ml) (seqT (Nat.lor M (Nat.shiftLeft (Nat.mod r two256) (Nat.mul 256 n))) (infoGo ops l (Nat.succ n)))) = _
  rw [edgesF_eq]
  simp only [seqT_eq, seqBo_eq]
  rfl
theorem bit_one' (n b : Nat) : (1 <<< n).testBit b = true ↔ b = n := by rw [bit_one]
theorem bitsOf_ok {t : Nat} : ∀ {l : List Nat}, t ∈ l → (bitsOf l).testBit t = true
  | x :: l, h => by
    show ((1 <<< x) ||| bitsOf l).testBit t = true
    rw [Nat.testBit_or, Bool.or_eq_true, bit_one]
    rcases List.mem_cons.1 h with h | h
    · exact .inl h
    · exact .inr (bitsOf_ok h)
theorem dstBit_ok {o : Option Tmp} {d : Nat} (h : o = some d) : (dstBit o).testBit d = true := by
  subst h; show (1 <<< d).testBit d = true; rw [bit_one]
theorem dF_ok : ∀ (l : List Edge) (d x : Nat), (d.testBit x = true ∨ ∃ e ∈ l, Region.binds .any e = true ∧ e.on = x) → (dF l d).testBit x = true
  | [], d, x, h => by rcases h with h | ⟨e, he, _⟩; exact h; simp at he
  | e :: l, d, x, h => by
    unfold dF
    rw [List.foldl_cons]
    refine dF_ok l _ x ?_
    rcases h with h | ⟨e', he, hb, rfl⟩
    · left; split
      · rw [Nat.testBit_or, h]; rfl
      · exact h
    · rcases List.mem_cons.1 he with rfl | he
      · left; rw [if_pos hb, Nat.testBit_or, Bool.or_eq_true, bit_one]; exact .inr rfl
      · exact .inr ⟨e', he, hb, rfl⟩
theorem mAt_bit (M j b : Nat) : (mAt M j).testBit b = true ↔ b < 256 ∧ M.testBit (256 * j + b) = true := by
  show ((M >>> (256 * j)) % two256).testBit b = true ↔ _
  rw [two256_eq, Nat.testBit_mod_two_pow, Nat.testBit_shiftRight]; simp
theorem rF_sub (M : Nat) (ms : List Nat) (h : ∀ j b, (mAt M j).testBit b = true → (ms.getD j 0).testBit b = true) : ∀ (l : List Edge) (r m : Nat), (∀ b, r.testBit b = true → m.testBit b = true) → ∀ b, (rF M l r).testBit b = true →
    (l.foldl (fun m e => if Region.binds .any e then (m ||| (1 <<< e.on)) ||| ms.getD e.on 0 else m) m).testBit b = true
  | [], r, m, hr, b, hb => hr b hb
  | e :: l, r, m, hr, b, hb => by
    unfold rF at hb
    rw [List.foldl_cons] at hb ⊢
    refine rF_sub M ms h l _ _ ?_ b hb
    intro b hb
    split at hb
    · rename_i hbi
      rw [if_pos hbi]
      simp only [Nat.testBit_or, Bool.or_eq_true] at hb ⊢
      rcases hb with (hb | hb) | hb
      · exact .inl (.inl (hr b hb))
      · exact .inl (.inr hb)
      · exact .inr (h _ _ hb)
    · rename_i hbi
      rw [if_neg hbi]; exact hr b hb
theorem masksGo_pre : ∀ (l : List Oper) (ms : List Nat) (j : Nat), j < ms.length → (masksGo l ms).getD j 0 = ms.getD j 0
  | [], ms, j, h => rfl
  | o :: l, ms, j, h => by
    unfold masksGo
    rw [masksGo_pre l _ j (by simp; omega)]
    simp [List.getD_eq_getElem?_getD, List.getElem?_append_left h]

structure OIok (ops : Array Oper) (i : Nat) (y : OI) : Prop where
  op : ops[i]? = some y.o
  idx : y.i = i
  bit : y.bit = 1 <<< i
  m : ∀ b, y.m.testBit b = true → befB (masks ops) b i = true
  d : ∀ e ∈ y.o.after.toList, Region.binds .any e = true → y.d.testBit e.on = true
  db : ∀ d, y.o.dst = some d → y.db.testBit d = true
  lk : ∀ t ∈ y.o.looksAt ops, y.lk.testBit t = true
  ef : y.ef = isEff y.o
  ml : y.ml = memless y.o
theorem infoGo_ok (ops : Array Oper) : ∀ (l : List Oper) (n M : Nat) (ms : List Nat), ms.length = n → (∀ j o, l[j]? = some o → ops[n + j]? = some o) → masksGo l ms = masks ops →
    (∀ j b, b < 256 → M.testBit (256 * j + b) = true → j < n ∧ (ms.getD j 0).testBit b = true) → ∀ j y, (infoGo ops l n M)[j]? = some y → OIok ops (n + j) y
  | [], n, M, ms, h1, h2, h3, h4, j, y, hy => by
    have : infoGo ops [] n M = [] := rfl
    rw [this] at hy; simp at hy
  | o :: l, n, M, ms, h1, h2, h3, h4, j, y, hy => by
    rw [infoGo_cons] at hy
    have hsub : ∀ b, (rF M o.after.toList 0).testBit b = true → (maskOf ms o).testBit b = true := by
      intro b hb
      unfold maskOf
      have := rF_sub M ms (fun j b h => by rw [mAt_bit] at h; exact (h4 j b h.1 h.2).2) o.after.toList 0 0 (fun b h => h) b hb
      exact this
    cases j with
    | zero =>
      simp only [List.getElem?_cons_zero, Option.some.injEq] at hy
      subst hy
      refine ⟨by simpa using h2 0 o (by simp), rfl, rfl, ?_, fun e he hb => dF_ok _ _ _ (.inr ⟨e, he, hb, rfl⟩), fun d h => dstBit_ok h, fun t h => bitsOf_ok h, rfl, rfl⟩
      intro b hb
      have := hsub b hb
      unfold befB
      rw [← h3]
      unfold masksGo
      rw [masksGo_pre _ _ _ (by simp; omega), Nat.add_zero]
      subst h1
      simpa [List.getD_eq_getElem?_getD] using this
    | succ j =>
      simp only [List.getElem?_cons_succ] at hy
      have := infoGo_ok ops l (n + 1) _ (ms ++ [maskOf ms o]) (by simp [h1]) (fun j' o' hj => by have := h2 (j' + 1) o' (by simpa using hj); rw [← this]; congr 1; omega) (by rw [← h3]; rfl) ?_ j y hy
      · have e : n + (j + 1) = n + 1 + j := by omega
        rw [e]; exact this
      · intro j b hb ht
        rw [Nat.testBit_or, Bool.or_eq_true] at ht
        rcases ht with ht | ht
        · obtain ⟨k1, k2⟩ := h4 j b hb ht
          refine ⟨by omega, ?_⟩
          rw [List.getD_eq_getElem?_getD, List.getElem?_append_left (by omega), ← List.getD_eq_getElem?_getD]; exact k2
        · rw [two256_eq, Nat.testBit_shiftLeft, Nat.testBit_mod_two_pow] at ht
          simp only [Bool.and_eq_true, decide_eq_true_eq] at ht
          obtain ⟨k1, k2, k3⟩ := ht
          have ej : j = n := by omega
          subst ej
          refine ⟨by omega, ?_⟩
          have eb : 256 * j + b - 256 * j = b := by omega
          rw [eb] at k3
          have := hsub b k3
          rw [← h1]
          simpa [List.getD_eq_getElem?_getD] using this
theorem infos_ok {ops : Array Oper} {i : Nat} {y : OI} (h : (infos ops)[i]? = some y) : OIok ops i y := by
  have := infoGo_ok ops ops.toList 0 0 [] rfl (fun j o hj => by simpa using hj) rfl (fun j b _ h => by simp at h) i y h
  simpa using this

/-! ### The check -/
theorem cntF_eq (a : Nat) (l : List OI) : cntF a l = if a = 0 then 0 else l.countP fun p => p.ef && !(Nat.beq (Nat.land a p.bit) 0) := by
  have key : ∀ l : List OI, cntGo a l = l.countP fun p => p.ef && !(Nat.beq (Nat.land a p.bit) 0) := by
    intro l
    induction l with
    | nil => rfl
    | cons p l ih =>
      have h : cntGo a (p :: l) = Bool.rec (motive := fun _ => Nat) (cntGo a l) (Bool.rec (motive := fun _ => Nat) (Nat.succ (cntGo a l)) (cntGo a l) (Nat.beq (Nat.land a p.bit) 0)) p.ef := rfl
      rw [List.countP_cons, ← ih, h]
      cases p.ef <;> cases Nat.beq (Nat.land a p.bit) 0 <;> rfl
  unfold cntF
  by_cases h : a = 0
  · subst h; rfl
  · rw [if_neg h, ← key]
    have : Nat.beq a 0 = false := by cases e : Nat.beq a 0 with
      | false => rfl
      | true => exact absurd (beq_iff.1 e) h
    rw [this]
theorem apartF_ok (a : Nat) (y : OI) : ∀ (l : List OI), apartF a y l = true → ∀ p ∈ l, Nat.land a p.bit ≠ 0 → Nat.land p.db (Nat.lor y.lk y.db) = 0 ∧ Nat.land y.db p.lk = 0
  | [], _, p, hp, _ => by simp at hp
  | q :: l, h, p, hp, hn => by
    have h' : (Bool.rec (motive := fun _ => Bool) (Bool.rec (motive := fun _ => Bool) false (Bool.rec (motive := fun _ => Bool) false (apartF a y l) (Nat.beq (Nat.land y.db q.lk) 0)) (Nat.beq (Nat.land q.db (Nat.lor y.lk y.db)) 0)) (apartF a y l) (Nat.beq (Nat.land a q.bit) 0) : Bool) = true := h
    cases e1 : Nat.beq (Nat.land a q.bit) 0 with
    | true =>
      rw [e1] at h'
      rcases List.mem_cons.1 hp with rfl | hp
      · exact absurd (beq_iff.1 e1) hn
      · exact apartF_ok a y l h' p hp hn
    | false =>
      rw [e1] at h'
      cases e2 : Nat.beq (Nat.land q.db (Nat.lor y.lk y.db)) 0 with
      | false => rw [e2] at h'; exact absurd h' Bool.false_ne_true
      | true =>
        rw [e2] at h'
        cases e3 : Nat.beq (Nat.land y.db q.lk) 0 with
        | false => rw [e3] at h'; exact absurd h' Bool.false_ne_true
        | true =>
          rw [e3] at h'
          rcases List.mem_cons.1 hp with rfl | hp
          · exact ⟨beq_iff.1 e2, beq_iff.1 e3⟩
          · exact apartF_ok a y l h' p hp hn
theorem no_common {a b : Nat} (h : Nat.land a b = 0) {x : Nat} (ha : a.testBit x = true) (hb : b.testBit x = true) : False := by
  have : (a &&& b).testBit x = true := by rw [Nat.testBit_and, ha, hb]; rfl
  have e : a &&& b = 0 := h
  rw [e] at this; simp at this
theorem apart_of {ops : Array Oper} {i j : Nat} {x y : OI} (hx : OIok ops i x) (hy : OIok ops j y) (h1 : Nat.land x.db (Nat.lor y.lk y.db) = 0) (h2 : Nat.land y.db x.lk = 0) : apartB ops i j = true := by
  have or1 : ∀ {a b t : Nat}, a.testBit t = true → (Nat.lor a b).testBit t = true := fun {a b t} h => by show (a ||| b).testBit t = true; rw [Nat.testBit_or, h]; rfl
  have or2 : ∀ {a b t : Nat}, b.testBit t = true → (Nat.lor a b).testBit t = true := fun {a b t} h => by show (a ||| b).testBit t = true; rw [Nat.testBit_or, h]; simp
  unfold apartB
  rw [hx.op, hy.op]
  simp only
  unfold Oper.apart
  rw [Bool.and_eq_true]
  constructor
  · cases hd : x.o.dst with
    | none => rfl
    | some d =>
      simp only [Bool.and_eq_true, Bool.not_eq_true', bne_iff_ne]
      have hb := hx.db d hd
      constructor
      · cases hc : (y.o.looksAt ops).contains d with
        | false => rfl
        | true => exact (no_common h1 hb (or1 (hy.lk d (by simpa using hc)))).elim
      · intro e
        exact no_common h1 hb (or2 (hy.db d e))
  · cases hd : y.o.dst with
    | none => rfl
    | some d =>
      simp only [Bool.not_eq_true']
      cases hc : (x.o.looksAt ops).contains d with
      | false => rfl
      | true => exact (no_common h2 (hy.db d hd) (hx.lk d (by simpa using hc))).elim
/-- What the quick check keeps of those that ran. -/
structure Prev (ops : Array Oper) (prev : List Nat) (l : List OI) (pm : Nat) : Prop where
  bits : ∀ x, pm.testBit x = true ↔ x ∈ prev
  list : prev = (l.map OI.i).reverse
  ok : ∀ p ∈ l, OIok ops p.i p
theorem bit_ne {a i : Nat} : Nat.land a (1 <<< i) ≠ 0 ↔ a.testBit i = true := by
  constructor
  · intro h
    cases e : a.testBit i with
    | true => rfl
    | false =>
      exfalso; apply h
      show a &&& (1 <<< i) = 0
      apply Nat.eq_of_testBit_eq
      intro x
      rw [Nat.testBit_and, Nat.zero_testBit]
      cases e2 : (1 <<< i).testBit x with
      | false => simp
      | true => rw [bit_one] at e2; subst e2; rw [e]; rfl
  · intro h e
    exact no_common e h (by rw [bit_one])
theorem oneF_ok {ops : Array Oper} {prev : List Nat} {l : List OI} {pm i b : Nat} {y : OI} (hp : Prev ops prev l pm) (hy : OIok ops i y) (h : oneF y b l pm = true) :
    (y.o.after.toList.all (fun e => !Region.binds .any e || prev.contains e.on) && !prev.contains i &&
          prev.all (fun p => befB (masks ops) p i || (!isEff y.o && apartB ops p i)) && (memless y.o || Nat.ble (prev.countP (fun p => farB ops (masks ops) p i)) b)) = true := by
  unfold oneF at h
  simp only [andF_eq, orF_eq, seqT_eq, Bool.and_eq_true, Bool.or_eq_true, beq_iff] at h
  obtain ⟨h1, h2, h3, h4⟩ := h
  have ax : ∀ x, (Nat.xor pm (Nat.land pm y.m)).testBit x = (pm.testBit x && !y.m.testBit x) := by
    intro x
    show (pm ^^^ (pm &&& y.m)).testBit x = _
    rw [Nat.testBit_xor, Nat.testBit_and]
    cases pm.testBit x <;> cases y.m.testBit x <;> rfl
  have am : ∀ p ∈ l, befB (masks ops) p.i i = false → Nat.land (Nat.xor pm (Nat.land pm y.m)) p.bit ≠ 0 := by
    intro p hpl hb
    rw [(hp.ok p hpl).bit, bit_ne, ax]
    have e1 : pm.testBit p.i = true := (hp.bits p.i).2 (by rw [hp.list]; simpa using ⟨p, hpl, rfl⟩)
    have e2 : y.m.testBit p.i = false := by
      cases e : y.m.testBit p.i with
      | false => rfl
      | true => rw [hy.m _ e] at hb; exact absurd hb.symm Bool.false_ne_true
    rw [e1, e2]; rfl
  simp only [Bool.and_eq_true, Bool.or_eq_true]
  refine ⟨⟨⟨?_, ?_⟩, ?_⟩, ?_⟩
  · rw [List.all_eq_true]
    intro e he
    cases hb : Region.binds .any e with
    | false => rfl
    | true =>
      have e1 := hy.d e he hb
      have e2 : pm.testBit e.on = true := by
        have h1' : y.d ||| pm = pm := h1
        rw [← h1', Nat.testBit_or, e1]; rfl
      simpa using (hp.bits e.on).1 e2
  · cases hc : prev.contains i with
    | false => rfl
    | true =>
      have e1 : pm.testBit i = true := (hp.bits i).2 (by simpa using hc)
      rw [hy.bit] at h2
      exact absurd h2 (bit_ne.2 e1)
  · rw [List.all_eq_true]
    intro p hpm
    rw [hp.list] at hpm
    simp at hpm
    obtain ⟨q, hq, rfl⟩ := hpm
    cases hb : befB (masks ops) q.i i with
    | true => rfl
    | false =>
      have hn := am q hq hb
      rcases h3 with h3 | ⟨h3, h3'⟩
      · rw [h3] at hn; exact absurd (show Nat.land 0 q.bit = 0 from Nat.zero_and _) hn
      · obtain ⟨k1, k2⟩ := apartF_ok _ _ _ h3' q hq hn
        have k3 := apart_of (hp.ok q hq) hy k1 k2
        have k4 : isEff y.o = false := by rw [← hy.ef]; cases e : y.ef with
          | false => rfl
          | true => rw [e] at h3; exact absurd h3 Bool.false_ne_true
        rw [k3, k4]; rfl
  · rcases h4 with h4 | h4
    · left; rw [← hy.ml]; exact h4
    · right
      rw [Nat.ble_eq] at h4 ⊢
      refine Nat.le_trans ?_ h4
      rw [cntF_eq, hp.list, List.countP_reverse, List.countP_map]
      split
      · rename_i h0
        rw [Nat.le_zero, List.countP_eq_zero]
        intro p hpl hf
        simp only [Function.comp, farB, Bool.and_eq_true, Bool.not_eq_true'] at hf
        have hn := am p hpl hf.2
        rw [h0] at hn
        exact absurd (show Nat.land 0 p.bit = 0 from Nat.zero_and _) hn
      · refine List.countP_mono_left ?_
        intro p hpl hf
        simp only [Function.comp, farB, Bool.and_eq_true, Bool.not_eq_true'] at hf
        have hn := am p hpl hf.2
        have he : p.ef = true := by
          have := hf.1
          unfold effB at this
          rw [(hp.ok p hpl).op] at this
          rw [(hp.ok p hpl).ef]; exact this
        rw [he]
        cases e : Nat.beq (Nat.land (Nat.xor pm (Nat.land pm y.m)) p.bit) 0 with
        | false => rfl
        | true => exact absurd (beq_iff.1 e) hn
theorem chkF_ok {ops : Array Oper} {full : Nat} : ∀ (l : List (Nat × Nat)) (prev : List Nat) (pl : List OI) (pm : Nat), Prev ops prev pl pm → chkF (infos ops) full l pl pm = true →
    chk ops (masks ops) prev l = true ∧ ∀ x, full.testBit x = true → x ∈ prev ∨ ∃ p ∈ l, p.1 = x
  | [], prev, pl, pm, hp, h => by
    have h' : Nat.beq pm full = true := h
    refine ⟨rfl, fun x hx => .inl ?_⟩
    rw [← beq_iff.1 h'] at hx
    exact (hp.bits x).1 hx
  | (i, b) :: l, prev, pl, pm, hp, h => by
    have h' : (Option.rec (motive := fun _ => Bool) false (fun y => andF (oneF y b pl pm) (seqT (Nat.lor pm y.bit) (chkF (infos ops) full l (.cons y pl)))) (nth (infos ops) i) : Bool) = true := h
    rw [nth_eq] at h'
    cases hy : (infos ops)[i]? with
    | none => rw [hy] at h'; exact absurd h' Bool.false_ne_true
    | some y =>
      rw [hy] at h'
      simp only [andF_eq, seqT_eq, Bool.and_eq_true] at h'
      have hok := infos_ok hy
      have h1 := oneF_ok hp hok h'.1
      have hp' : Prev ops (prev ++ [i]) (y :: pl) (Nat.lor pm y.bit) := by
        refine ⟨fun x => ?_, ?_, ?_⟩
        · show (pm ||| y.bit).testBit x = true ↔ _
          rw [Nat.testBit_or, Bool.or_eq_true, hp.bits x, hok.bit, bit_one]
          simp
        · rw [hp.list]; simp [hok.idx]
        · intro p hpm
          rcases List.mem_cons.1 hpm with rfl | hpm
          · rw [hok.idx]; exact hok
          · exact hp.ok p hpm
      obtain ⟨h2, h3⟩ := chkF_ok l _ _ _ hp' h'.2
      refine ⟨?_, ?_⟩
      · unfold chk
        rw [hok.op]
        simp only
        rw [h1, h2]; rfl
      · intro x hx
        rcases h3 x hx with h | ⟨p, hpl, rfl⟩
        · rcases List.mem_append.1 h with h | h
          · exact .inl h
          · simp at h; exact .inr ⟨(i, b), by simp, h.symm⟩
        · exact .inr ⟨p, by simp [hpl], rfl⟩
theorem lenL_eq {α : Type} : ∀ l : List α, lenL l = l.length
  | [] => rfl
  | _ :: l => by show Nat.succ (lenL l) = _; rw [lenL_eq l]; rfl
theorem planF_ok {ops : Array Oper} {items : List (Nat × Nat)} (h : planF ops items = true) : planB ops items = true := by
  obtain ⟨h1, h2⟩ := chkF_ok items [] [] 0 ⟨fun x => by simp, rfl, fun p hp => by simp at hp⟩ h
  unfold planB
  rw [h1, Bool.true_and, List.all_eq_true]
  intro i hi
  rw [List.mem_range] at hi
  rw [List.any_eq_true]
  have hb : (fullM (lenL ops.toList)).testBit i = true := by
    show ((1 <<< lenL ops.toList) - 1).testBit i = true
    rw [lenL_eq, Array.length_toList, Nat.one_shiftLeft, Nat.testBit_two_pow_sub_one]
    simpa using hi
  rcases h2 i hb with h3 | ⟨p, hp, rfl⟩
  · simp at h3
  · exact ⟨p, hp, by simp⟩
end
end Go.Proofs.YtbobnbndbgpanaaGreat.Sx
