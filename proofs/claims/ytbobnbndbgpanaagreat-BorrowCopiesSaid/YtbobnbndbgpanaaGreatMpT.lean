/- The engine's contracts of Reader.is and Reader.kind. -/
import Derived.Test.YtbobnbndbgpanaaGreatMpR
import Derived.Test.YtbobnbndbgpanaaGreatMpS
namespace Go.Proofs.YtbobnbndbgpanaaGreat.Sx
open Go Go.RowKit Go.Proofs.YtbobnbndbgpanaaGreat.W
set_option linter.unusedVariables false
set_option linter.unusedSimpArgs false
noncomputable section
/-- What a reader is about to read: nothing more, or a token's kind and text. -/
inductive Rd where
  | bad
  | tok (kd : Int) (tx : List UInt8)
def rdOf (st : St) (k : Nat) : Option Rd :=
  match st.cells k with
  | some cs => match cs.get 3, cs.get 1, cs.get 0 with
    | some (.int .i64 (.lit e)), some (.int .i64 (.lit i)), some (.slice a n c x) =>
      if decide (e = 0) then (if decide (0 ≤ i) && Nat.ble n 9223372036854775807 && decide (i ≤ 9223372036854775807) then (if Nat.blt i.toNat n then (match a with
        | some (kt, ot) => match st.cells kt with
          | some ct => match ct.get (ot + i.toNat * 3), ct.get (ot + i.toNat * 3 + 1) with
            | some (.int .i64 (.lit kd)), some (.str (.lit tx)) => some (.tok kd tx)
            | _, _ => none
          | none => none
        | none => none) else some .bad) else none) else some .bad
    | _, _, _ => none
  | none => none
def isG (args : List V) (st : St) : Option (CR × St) :=
  match args with
  | [.ptr (some (k, 0)), .str (.lit s)] => match rdOf st k with
    | some .bad => some (.ret (.bool (.lit false)), st)
    | some (.tok kd tx) => if decide (kd < 3) then some (.ret (.bool (.lit false)), st) else fB (tx == s) fun b => some (.ret (.bool (.lit b)), st)
    | none => none
  | _ => none
def kindG (args : List V) (st : St) : Option (CR × St) :=
  match args with
  | [.ptr (some (k, 0)), .int .i64 (.lit q)] => match rdOf st k with
    | some .bad => some (.ret (.bool (.lit false)), st)
    | some (.tok kd tx) => fB (decide (kd = q)) fun b => some (.ret (.bool (.lit b)), st)
    | none => none
  | _ => none
section
variable {η : Env} {φ : Place} {W : World}
theorem SR.cellAt {st : St} (hs : SR η φ st W) {k : Nat} {cs : Arr} (hc : st.cells k = some cs) {b : Nat} {s : Nat × Nat} (hφ : φ k = some (b, s)) {j : Nat} {v : V} (hj : cs.get j = some v) : ∃ v', W.cell? ⟨b, s.1 + j, none⟩ = some v' ∧ VR η φ v v' := by
  obtain ⟨b1, s1, pre, mid, post, t, g1, g2, g3, g4⟩ := hs.cells hc
  rw [hφ] at g1; injection g1 with g1; injection g1 with e1 e2; subst e1; subst e2
  rw [Arr.get_eq] at hj
  have h2 : ∀ {l : List V} {m : List Value} {i : Nat}, VRs η φ l m → l[i]? = some v → ∃ v', m[i]? = some v' ∧ VR η φ v v' := by
    intro l m i h
    induction h using VRs.rec (motive_1 := fun _ _ _ => True) generalizing i with
    | bool => trivial
    | int => trivial
    | str => trivial
    | ptrN => trivial
    | ptr => trivial
    | sliceN => trivial
    | slice => trivial
    | sliceE => trivial
    | mapN => trivial
    | map => trivial
    | func => trivial
    | nilFunc => trivial
    | iface => trivial
    | nilIface => trivial
    | agg => trivial
    | tuple => trivial
    | nil => intro h; simp at h
    | cons v0 v0' l l' hv t _ ih =>
      intro h
      cases i with
      | zero => simp at h; subst h; exact ⟨v0', rfl, hv⟩
      | succ i => simpa using ih (i := i) (by simpa using h)
  obtain ⟨v', h3, h4⟩ := h2 g4 hj
  refine ⟨v', ?_, h4⟩
  have hl : j < mid.length := (List.getElem?_eq_some_iff.1 h3).1
  rw [cell_of_row _ _ _ _ t (0, 0) g2]
  rw [← g3]
  have h5 : mid[j] = v' := by rw [List.getElem?_eq_getElem hl] at h3; injection h3
  simp [List.getElem?_append, hl, h5]
theorem rdOf_ok {st : St} (hs : SR η φ st W) {k : Nat} {r : Rd} (h : rdOf st k = some r) {b : Nat} {s : Nat × Nat} (hφ : φ k = some (b, s)) :
    match r with
    | .bad => (∃ e : Int, e ≠ 0 ∧ W.cell? ⟨b, s.1 + 0 + 3, none⟩ = some (.int .i64 e)) ∨
        ∃ la, ∃ n c : Nat, ∃ i : Int, (n : Int) ≤ i ∧ i ≤ 9223372036854775807 ∧ W.cell? ⟨b, s.1 + 0, none⟩ = some (.slice la n c) ∧ W.cell? ⟨b, s.1 + 0 + 1, none⟩ = some (.int .i64 i) ∧ W.cell? ⟨b, s.1 + 0 + 3, none⟩ = some (.int .i64 0)
    | .tok kd tx => ∃ tb tf n c, ∃ i : Nat, i < n ∧ n ≤ 9223372036854775807 ∧ W.cell? ⟨b, s.1 + 0, none⟩ = some (.slice (some ⟨tb, tf, none⟩) n c) ∧ W.cell? ⟨b, s.1 + 0 + 1, none⟩ = some (.int .i64 i) ∧ W.cell? ⟨b, s.1 + 0 + 3, none⟩ = some (.int .i64 0) ∧
        W.cell? ⟨tb, tf + i * 3, none⟩ = some (.int .i64 kd) ∧ W.cell? ⟨tb, tf + i * 3 + 1, none⟩ = some (.string ⟨tx.toArray⟩) := by
  unfold rdOf at h
  split at h
  case h_2 => simp at h
  rename_i cs hcs
  split at h
  case h_2 => simp at h
  rename_i e i a n c x h3 h1 h0
  obtain ⟨v3, w3, r3⟩ := hs.cellAt hcs hφ h3
  obtain ⟨v1, w1, r1⟩ := hs.cellAt hcs hφ h1
  obtain ⟨v0, w0, r0⟩ := hs.cellAt hcs hφ h0
  cases r3
  cases r1
  simp only [E.den] at w3 w1
  split at h
  · rename_i he
    have he : e = 0 := of_decide_eq_true he
    subst he
    split at h
    case isFalse => simp at h
    rename_i hb
    simp only [Bool.and_eq_true, decide_eq_true_eq] at hb
    obtain ⟨⟨hb1, hb2⟩, hb3⟩ := hb
    have hb2 : n ≤ 9223372036854775807 := Nat.le_of_ble_eq_true hb2
    split at h
    · rename_i hlt
      have hlt : i.toNat < n := by simp [Nat.blt, Nat.ble_eq] at hlt; omega
      have hii : (i.toNat : Int) = i := Int.toNat_of_nonneg hb1
      split at h
      case h_2 => simp at h
      rename_i kt ot
      split at h
      case h_2 => simp at h
      rename_i ct hct
      split at h
      case h_2 => simp at h
      rename_i kd tx g0 g1
      simp only [Option.some.injEq] at h; subst h
      cases r0 with
      | slice _ _ tb st' _ _ _ hφt =>
      obtain ⟨u0, y0, z0⟩ := hs.cellAt hct hφt g0
      obtain ⟨u1, y1, z1⟩ := hs.cellAt hct hφt g1
      cases z0
      cases z1
      refine ⟨tb, st'.1 + ot, n, _, i.toNat, hlt, hb2, w0, by rw [hii]; exact w1, w3, by rw [Nat.add_assoc]; exact y0, by rw [Nat.add_assoc, Nat.add_assoc]; rw [Nat.add_assoc] at y1; exact y1⟩
    · rename_i hlt
      simp only [Option.some.injEq] at h; subst h
      have hlt : n ≤ i.toNat := by
        by_cases q : i.toNat < n
        · exfalso; apply hlt; simp [Nat.blt, Nat.ble_eq]; omega
        · omega
      right
      have hsl : ∃ la cc, v0 = .slice la n cc := by
        cases r0
        · exact ⟨_, _, rfl⟩
        · exact ⟨_, _, rfl⟩
      obtain ⟨la, cc, rfl⟩ := hsl
      exact ⟨la, n, cc, i, by omega, hb3, w0, w1, w3⟩
  · rename_i he
    simp only [Option.some.injEq] at h; subst h
    left
    exact ⟨e, by simpa using he, w3⟩
theorem same_ret {f : FuncId} {args' : List Value} {st : St} (hs : SR η φ st W) {b : Bool} (h : Calls Tryz.prog f args'.toArray W fun e w' => e = .returned (.bool b) ∧ Below W.heap.size W w') :
    Calls Tryz.prog f args'.toArray W fun e W' => ∃ φ', CE η φ' (.ret (.bool (.lit b))) e ∧ SR η φ' st W' ∧ Ext φ φ' W W' := by
  refine h.mono ?_
  rintro e W' ⟨rfl, hb⟩
  exact ⟨φ, ⟨_, rfl, VR.bool (.lit b)⟩, hs.below hb, ⟨Mono.refl φ, fun k b s h h' => by simp [h] at h', hb.os, hb.tape, hb.output, hb.size, fun b' hb' _ => hb.block b' hb'⟩⟩
def rdSum (sm : Summary) : Summary := (sm.put2 70 isG).put2 71 kindG
theorem rdSum_ok {sm : Summary} (hsm : SumOk η Tryz.prog sm) : SumOk η Tryz.prog (rdSum sm) := by
  refine SumOk.put2 (SumOk.put2 hsm ?_) ?_
  · intro args st c st' hg φ args' W hargs hs
    unfold isG at hg
    split at hg
    case h_2 => simp at hg
    rename_i k s0
    cases hargs with
    | cons _ p' _ _ hp ht =>
    cases ht with
    | cons _ q' _ _ hq ht =>
    cases ht
    cases hq
    cases hp with
    | ptr _ _ b s hφ =>
    split at hg
    · rename_i hr
      simp only [Option.some.injEq, Prod.mk.injEq] at hg
      obtain ⟨rfl, rfl⟩ := hg
      rcases rdOf_ok hs hr hφ with ⟨e, he, c3⟩ | ⟨la, n, c, i, h1, h2, c0, c1, c3⟩
      · exact same_ret hs (is_bad W b (s.1 + 0) e _ he c3)
      · exact same_ret hs (is_end W b (s.1 + 0) la n c i _ h1 h2 c0 c1 c3)
    · rename_i kd tx hr
      obtain ⟨tb, tf, n, c, i, h1, h2, c0, c1, c3, d0, d1⟩ := rdOf_ok hs hr hφ
      split at hg
      · rename_i hk
        simp only [Option.some.injEq, Prod.mk.injEq] at hg
        obtain ⟨rfl, rfl⟩ := hg
        exact same_ret hs (is_kind W b (s.1 + 0) tb tf n c i kd _ _ h1 h2 (of_decide_eq_true hk) c0 c1 c3 d0 d1)
      · rename_i hk
        rw [fB_eq] at hg
        simp only [Option.some.injEq, Prod.mk.injEq] at hg
        obtain ⟨rfl, rfl⟩ := hg
        have := is_text W b (s.1 + 0) tb tf n c i kd _ (S.den η (.lit s0)) h1 h2 (by simp at hk; omega) c0 c1 c3 d0 d1
        have e : ((⟨tx.toArray⟩ : ByteArray).toList == (S.den η (.lit s0)).toList) = (tx == s0) := by
          have q : ∀ l : List UInt8, (⟨l.toArray⟩ : ByteArray).toList = l := fun l => by simp
          simp only [S.den, q]
        rw [e] at this
        exact same_ret hs this
    · simp at hg
  · intro args st c st' hg φ args' W hargs hs
    unfold kindG at hg
    split at hg
    case h_2 => simp at hg
    rename_i k q0
    cases hargs with
    | cons _ p' _ _ hp ht =>
    cases ht with
    | cons _ q' _ _ hq ht =>
    cases ht
    cases hq
    cases hp with
    | ptr _ _ b s hφ =>
    simp only [E.den]
    split at hg
    · rename_i hr
      simp only [Option.some.injEq, Prod.mk.injEq] at hg
      obtain ⟨rfl, rfl⟩ := hg
      rcases rdOf_ok hs hr hφ with ⟨e, he, c3⟩ | ⟨la, n, c, i, h1, h2, c0, c1, c3⟩
      · exact same_ret hs (kind_bad W b (s.1 + 0) e _ he c3)
      · exact same_ret hs (kind_end W b (s.1 + 0) la n c i _ h1 h2 c0 c1 c3)
    · rename_i kd tx hr
      obtain ⟨tb, tf, n, c, i, h1, h2, c0, c1, c3, d0, d1⟩ := rdOf_ok hs hr hφ
      rw [fB_eq] at hg
      simp only [Option.some.injEq, Prod.mk.injEq] at hg
      obtain ⟨rfl, rfl⟩ := hg
      have := kind_of W b (s.1 + 0) tb tf n c i kd _ q0 h1 h2 c0 c1 c3 d0 d1
      have e : (kd == q0) = decide (kd = q0) := rfl
      rw [e] at this
      exact same_ret hs this
    · simp at hg
end
end
end Go.Proofs.YtbobnbndbgpanaaGreat.Sx
