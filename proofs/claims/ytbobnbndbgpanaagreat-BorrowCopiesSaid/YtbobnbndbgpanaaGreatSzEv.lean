/- The executor: code; and that the model's run comes to what it comes to. -/
import Derived.Test.YtbobnbndbgpanaaGreatSzRun
import Derived.Scope
namespace Go.Proofs.YtbobnbndbgpanaaGreat.Sx
open Go Go.RowKit
set_option linter.unusedVariables false
set_option linter.unusedSimpArgs false
noncomputable section

section
variable {η : Env} {P : Program}
theorem rounds_mono {b : Code} {Q Q' : Exit → Act → World → Prop} (hq : ∀ e a w, Q e a w → Q' e a w) : ∀ n A W, Code.rounds P b Q n A W → Code.rounds P b Q' n A W := by
  intro n
  induction n with
  | zero => intro A W h; exact h.elim
  | succ n ih =>
    intro A W h
    rw [rounds_succ] at h ⊢
    refine wp_mono h ?_
    intro e A1 W1 h1
    cases e with
    | normal => exact ih A1 W1 h1
    | _ => exact hq _ _ _ h1


theorem oxX_post {φ : Place} {W : World} {ox : Ox} {x : X} {a' : Regs} {st' : St} (h : (oxX ox).sel η = some (x, a', st')) : OxPost η φ W ox (Post η φ W x a' st') := by
  cases ox with
  | ok a st =>
    simp only [oxX, T.sel, Option.some.injEq, Prod.mk.injEq] at h
    obtain ⟨rfl, rfl, rfl⟩ := h
    exact fun φ' A' W' g1 g2 g3 => ⟨φ', trivial, g1, g2, g3⟩
  | pan v a st =>
    simp only [oxX, T.sel, Option.some.injEq, Prod.mk.injEq] at h
    obtain ⟨rfl, rfl, rfl⟩ := h
    exact fun φ' A' W' ch g0 g1 g2 g3 => ⟨φ', g0, g1, g2, g3⟩
theorem PostS.ext {φ φ1 : Place} {W W1 : World} {c0 : Frame} {cs : List Frame} {u0 : FrameMode} {x : X} {a : Regs} {st : St} {rm : RM} (h : Ext φ φ1 W W1) {e : Exit} {A : Act} {cs' : List Frame} {W' : World} (p : PostS η φ1 W1 { c0 with mode := u0 } cs x a st rm e A cs' W') : PostS η φ W c0 cs x a st rm e A cs' W' := by
  obtain ⟨φ2, u, k0, k1, k2, k3, k4, k5⟩ := p; exact ⟨φ2, u, k0, k1, k2, k3, k4, h.trans k5⟩
theorem wpOpsS_mono {ops : Array Oper} {Q Q' : Exit → Act → List Frame → World → Prop} (hq : ∀ e a cs w, Q e a cs w → Q' e a cs w) : ∀ (l : List Nat) (a : Act) (cs : List Frame) (w : World), wpOpsS P ops Q l a cs w → wpOpsS P ops Q' l a cs w := by
  intro l
  induction l with
  | nil => exact fun a cs w h => hq _ _ _ _ h
  | cons i rest ih =>
    intro a cs w h
    unfold wpOpsS at h ⊢
    split
    · rename_i ho; rw [ho] at h; exact ih _ _ _ h
    · rename_i o ho
      rw [ho] at h
      simp only at h
      split
      · rename_i hw
        rw [if_pos hw] at h
        split
        · rename_i w' hr
          rw [hr] at h
          simp only at h
          split
          · rename_i hrec; rw [hrec] at h; exact ih _ _ _ h
          · rename_i hrec; rw [hrec] at h; exact ih _ _ _ h
        · rename_i r hne
          have h' : o.upon P a (fun a' w' => wpOpsS P ops Q rest a' cs w') (fun e a' w' => Q e a' cs w') ((execOp a.eval o).run P w) := by
            generalize (execOp a.eval o).run P w = r at *
            split at h
            · rename_i w' ; exact absurd rfl (hne _)
            · exact h
          generalize (execOp a.eval o).run P w = r at *
          cases r with
          | ok n w' =>
            cases n <;> simp only [Oper.upon] at h' ⊢ <;> first
              | exact ih _ _ _ h'
              | exact Calls.mono h' (fun e w'' he => by
                  cases e with
                  | returned v => exact ih _ _ _ he
                  | panicked c => exact hq _ _ _ _ he
                  | outgrown => obtain ⟨a0, w0, he⟩ := he; exact ⟨a0, w0, hq _ _ _ _ he⟩)
              | exact Rows.mono h' (fun _ _ he => ih _ _ _ he)
          | halt x w' => cases x <;> simp only [Oper.upon] at h' ⊢ <;> exact hq _ _ _ _ h'
      · rename_i hw
        rw [if_neg hw] at h
        exact ih _ _ _ h
theorem runOpsR_ok (hP : Plain P) {call : CallF} (hcall : CallOk η P call) (ops : Array Oper) : ∀ (l : List Nat) (a : Regs) (st : St) (rm : RM) (x : X) (a' : Regs) (st' : St) (rm' : RM), (runOpsR P call ops l a st rm).sel η = some (x, a', st', rm') →
    ∀ (φ : Place) (A : Act) (W : World) (c0 : Frame) (cs : List Frame), AR η φ a A → SR η φ st W → RMR η φ rm c0.mode → wpOpsS P ops (PostS η φ W c0 cs x a' st' rm') l A (c0 :: cs) W := by
  intro l
  induction l with
  | nil =>
    intro a st rm x a' st' rm' h φ A W c0 cs ha hs hm
    simp only [runOpsR, T.sel, Option.some.injEq, Prod.mk.injEq] at h
    obtain ⟨rfl, rfl, rfl, rfl⟩ := h
    exact ⟨φ, c0.mode, rfl, hm, trivial, ha, hs, Ext.refl _ _⟩
  | cons i rest ih =>
    intro a st rm x a' st' rm' h φ A W c0 cs ha hs hm
    unfold runOpsR at h
    unfold wpOpsS
    split at h
    · simp [T.sel] at h
    rename_i o ho
    rw [ho]
    simp only
    split at h
    · simp [T.sel] at h
    rename_i hg
    rw [if_pos (want_ok ha (.inl hg))]
    split at h
    · rename_i hrec
      have hex : (execOp A.eval o).run P W = .ok .recover W := by
        unfold isRec at hrec
        split at hrec
        · rename_i c hc
          split at hrec
          · rename_i hcc
            unfold execOp
            simp [hc, resolve, hcc, invoke, builtin]
          · simp at hrec
        · simp at hrec
      rw [hex]
      simp only
      cases rm with
      | hot v =>
        simp only at h
        obtain ⟨ch, hmode, v', older, rfl, h2, h3⟩ := hm
        have hr : recoverD (c0 :: cs) = some (v', { c0 with mode := .panicking ({ v := v', recovered := true } :: older) } :: cs) := by
          unfold recoverD; simp only [hmode]
        rw [hr]
        simp only
        refine wpOpsS_mono (fun e A' cs' W' p => PostS.ext (Ext.refl _ _) p) _ _ _ _ (ih _ st .cold x a' st' rm' h φ _ W { c0 with mode := .panicking ({ v := v', recovered := true } :: older) } cs (put_ar ha _ h3) hs ⟨v', older, rfl, h2⟩)
      | calm =>
        simp only at h
        have hmode : c0.mode = .returning := hm
        have hr : recoverD (c0 :: cs) = none := by unfold recoverD; simp only [hmode]
        rw [hr]
        exact ih _ st .calm x a' st' rm' h φ _ W c0 cs (put_ar ha _ .nilIface) hs hm
      | cold =>
        simp only at h
        obtain ⟨v', older, hmode, h2⟩ := hm
        have hr : recoverD (c0 :: cs) = none := by unfold recoverD; simp only [hmode]
        rw [hr]
        exact ih _ st .cold x a' st' rm' h φ _ W c0 cs (put_ar ha _ .nilIface) hs ⟨v', older, hmode, h2⟩
    · rw [T.sel_bind] at h
      cases hr : (oneE P call a st o).sel η with
      | none => rw [hr] at h; simp at h
      | some r =>
        rw [hr] at h
        simp only [Option.bind_some] at h
        have hone := oneE_ok hP hcall ha hs hr
        cases r with
        | put f args st1 => simp [T.sel] at h
        | val v st1 =>
          simp only at h
          have next : ∀ φ' v' W', VR η φ' v v' → SR η φ' st1 W' → Ext φ φ' W W' → wpOpsS P ops (PostS η φ W c0 cs x a' st' rm') rest (A.put o.dst v') (c0 :: cs) W' := by
            intro φ' v' W' g1 g2 g3
            exact wpOpsS_mono (fun e A' cs' W'' p => PostS.ext (u0 := c0.mode) g3 p) _ _ _ _ (ih _ st1 rm x a' st' rm' h φ' _ W' c0 cs (put_ar (ha.mono g3.mono) _ g1) g2 (hm.mono g3.mono))
          rcases hone with ⟨v', W', φ', h1, h2, h3, h4⟩ | ⟨rfl, W', φ', h1, h3, h4⟩ | ⟨f, args, W1, h1, h2⟩
          · rw [h1]; exact next φ' v' W' h2 h3 h4
          · rw [h1]; exact next φ' undef W' undef_vr h3 h4
          · rw [h1]
            refine h2.mono ?_
            rintro e W2 ⟨φ2, v', rfl, g1, g2, g3⟩
            exact next φ2 v' W2 g1 g2 g3
        | pan v st1 =>
          simp only [T.sel, Option.some.injEq, Prod.mk.injEq] at h
          obtain ⟨rfl, rfl, rfl, rfl⟩ := h
          rcases hone with ⟨v', W', φ', h1, h2, h3, h4⟩ | ⟨f, args, W1, h1, h2⟩
          · rw [h1]
            exact ⟨φ', c0.mode, rfl, hm.mono h4.mono, ⟨v', [], rfl, by simp, h2⟩, ha.mono h4.mono, h3, h4⟩
          · rw [h1]
            refine h2.mono ?_
            rintro e W2 ⟨φ2, ch, rfl, g1, g2, g3⟩
            exact ⟨φ2, c0.mode, rfl, hm.mono g3.mono, g1, ha.mono g3.mono, g2, g3⟩

theorem ev_ok (hP : Plain P) (hM : P.follows .mixedOrders = true) {sm : Summary} (hsm : SumOk η P sm) : ∀ n, EvOk η P (ev P sm n) ∧
    (∀ b a st x a' st', (ev P sm n (.loop b) a st).sel η = some (x, a', st') → ∀ φ A W, AR η φ a A → SR η φ st W → Code.rounds P b (Post η φ W x a' st') n A W) ∧ EvDOk η P (evD P sm n) := by
  intro n
  induction n with
  | zero =>
    refine ⟨?_, ?_, ?_⟩
    · intro c a st x a' st' h; simp [ev_zero, T.sel] at h
    · intro c a st x a' st' h; simp [ev_zero, T.sel] at h
    · intro c a st rm x a' st' rm' h; simp [evD_zero, T.sel] at h
  | succ n ih =>
    obtain ⟨ih, ihl, ihd⟩ := ih
    have hcall := callE_ok hP hsm ih ihd
    have hloop : ∀ b a st x a' st', (ev P sm (n + 1) (.loop b) a st).sel η = some (x, a', st') → ∀ φ A W, AR η φ a A → SR η φ st W → Code.rounds P b (Post η φ W x a' st') (n + 1) A W := by
      intro b a st x a' st' h φ A W ha hs
      rw [ev_succ] at h
      unfold evStep at h
      simp only at h
      rw [T.sel_bind] at h
      cases hr : (ev P sm n b a st).sel η with
      | none => rw [hr] at h; simp at h
      | some q =>
        obtain ⟨x1, a1, st1⟩ := q
        rw [hr] at h
        simp only [Option.bind_some] at h
        rw [rounds_succ]
        refine wp_mono (ih b a st x1 a1 st1 hr φ A W ha hs) ?_
        rintro e A1 W1 ⟨φ1, hx, ha1, hs1, he1⟩
        cases x1 with
        | normal =>
          cases e <;> simp only [XR] at hx
          show Code.rounds P b _ n A1 W1
          exact rounds_mono (fun e2 A2 W2 p => Post.ext he1 p) n A1 W1 (ihl b a1 st1 x a' st' h φ1 A1 W1 ha1 hs1)
        | exit i =>
          simp only [T.sel, Option.some.injEq, Prod.mk.injEq] at h
          obtain ⟨rfl, rfl, rfl⟩ := h
          cases e <;> simp only [XR] at hx
          exact ⟨φ1, hx, ha1, hs1, he1⟩
        | ret =>
          simp only [T.sel, Option.some.injEq, Prod.mk.injEq] at h
          obtain ⟨rfl, rfl, rfl⟩ := h
          cases e <;> simp only [XR] at hx
          exact ⟨φ1, trivial, ha1, hs1, he1⟩
        | pan v =>
          simp only [T.sel, Option.some.injEq, Prod.mk.injEq] at h
          obtain ⟨rfl, rfl, rfl⟩ := h
          cases e <;> simp only [XR] at hx
          exact ⟨φ1, hx, ha1, hs1, he1⟩
    have hev : EvOk η P (ev P sm (n + 1)) := by
      intro c a st x a' st' h φ A W ha hs
      cases c with
      | loop b => exact wp_loop_rounds (n + 1) (hloop b a st x a' st' h φ A W ha hs)
      | skip =>
        simp only [ev_succ, evStep, T.sel, Option.some.injEq, Prod.mk.injEq] at h
        obtain ⟨rfl, rfl, rfl⟩ := h
        exact wp_skip ⟨φ, trivial, ha, hs, Ext.refl _ _⟩
      | label l =>
        simp only [ev_succ, evStep, T.sel, Option.some.injEq, Prod.mk.injEq] at h
        obtain ⟨rfl, rfl, rfl⟩ := h
        exact wp_label ⟨φ, trivial, ha, hs, Ext.refl _ _⟩
      | scope b =>
        simp only [ev_succ, evStep] at h
        refine wp_scope_straight (wp_mono (ih b a st x a' st' h φ A W ha hs) ?_)
        rintro e A1 W1 ⟨φ1, hx, k1⟩
        cases x <;> cases e <;> simp only [XR] at hx <;> exact ⟨φ1, hx, k1⟩
      | ret =>
        simp only [ev_succ, evStep, T.sel, Option.some.injEq, Prod.mk.injEq] at h
        obtain ⟨rfl, rfl, rfl⟩ := h
        exact wp_ret ⟨φ, trivial, ha, hs, Ext.refl _ _⟩
      | exit id =>
        simp only [ev_succ, evStep, T.sel, Option.some.injEq, Prod.mk.injEq] at h
        obtain ⟨rfl, rfl, rfl⟩ := h
        exact wp_exit ⟨φ, rfl, ha, hs, Ext.refl _ _⟩
      | region id ops draw =>
        cases draw with
        | true =>
          simp only [ev_succ, evStep] at h
          split at h
          case isFalse => simp [T.sel] at h
          rename_i hplan
          rw [T.sel_bind] at h
          cases hr : (runD P (callE P sm (ev P sm n) (evD P sm n)) ops (masks ops) (planOf ops) a st [st.heap]).sel η with
          | none => rw [hr] at h; simp at h
          | some ox =>
            rw [hr] at h
            exact wp_drawn hP hM hcall hplan hr ha hs (oxX_post h)
        | false =>
          simp only [ev_succ, evStep] at h
          rw [T.sel_bind] at h
          cases hr : (runOps P (callE P sm (ev P sm n) (evD P sm n)) ops ops.toList a st).sel η with
          | none => rw [hr] at h; simp at h
          | some ox =>
            rw [hr] at h
            exact wp_region_list (runOps_ok hP hcall ops _ _ _ _ hr φ A W _ ha hs (oxX_post h))
      | seq y z =>
        simp only [ev_succ, evStep] at h
        rw [T.sel_bind] at h
        cases hr : (ev P sm n y a st).sel η with
        | none => rw [hr] at h; simp at h
        | some q =>
          obtain ⟨x1, a1, st1⟩ := q
          rw [hr] at h
          simp only [Option.bind_some] at h
          refine wp_seq (wp_mono (ih y a st x1 a1 st1 hr φ A W ha hs) ?_)
          rintro e A1 W1 ⟨φ1, hx, ha1, hs1, he1⟩
          cases x1 with
          | normal =>
            cases e <;> simp only [XR] at hx
            show z.wp P _ A1 W1
            exact wp_mono (ih z a1 st1 x a' st' h φ1 A1 W1 ha1 hs1) (fun e2 A2 W2 p => Post.ext he1 p)
          | exit i =>
            simp only [T.sel, Option.some.injEq, Prod.mk.injEq] at h
            obtain ⟨rfl, rfl, rfl⟩ := h
            cases e <;> simp only [XR] at hx
            exact ⟨φ1, hx, ha1, hs1, he1⟩
          | ret =>
            simp only [T.sel, Option.some.injEq, Prod.mk.injEq] at h
            obtain ⟨rfl, rfl, rfl⟩ := h
            cases e <;> simp only [XR] at hx
            exact ⟨φ1, trivial, ha1, hs1, he1⟩
          | pan v =>
            simp only [T.sel, Option.some.injEq, Prod.mk.injEq] at h
            obtain ⟨rfl, rfl, rfl⟩ := h
            cases e <;> simp only [XR] at hx
            exact ⟨φ1, hx, ha1, hs1, he1⟩
      | cond c y z =>
        simp only [ev_succ, evStep] at h
        split at h
        · rename_i b hb
          obtain ⟨st1, h', hs'⟩ := br_sel hs h
          have hc := evalO_vr ha hb
          generalize hcv : A.eval c = cv at hc
          cases hc
          exact wp_cond hcv (ih _ a st1 x a' st' h' φ A W ha hs')
        · simp [T.sel] at h
      | block id b =>
        simp only [ev_succ, evStep] at h
        rw [T.sel_bind] at h
        cases hr : (ev P sm n b a st).sel η with
        | none => rw [hr] at h; simp at h
        | some q =>
          obtain ⟨x1, a1, st1⟩ := q
          rw [hr] at h
          simp only [Option.bind_some] at h
          refine wp_block (wp_mono (ih b a st x1 a1 st1 hr φ A W ha hs) ?_)
          rintro e A1 W1 ⟨φ1, hx, ha1, hs1, he1⟩
          cases x1 with
          | normal =>
            simp only [T.sel, Option.some.injEq, Prod.mk.injEq] at h
            obtain ⟨rfl, rfl, rfl⟩ := h
            cases e <;> simp only [XR] at hx
            exact ⟨φ1, trivial, ha1, hs1, he1⟩
          | exit id1 =>
            cases e <;> simp only [XR] at hx
            subst hx
            show (if id1 = id then _ else _)
            have h' : (if id1 = id then T.ret (X.normal, a1, st1) else T.ret (X.exit id1, a1, st1)).sel η = some (x, a', st') := h
            by_cases hid : id1 = id
            · rw [if_pos hid] at h' ⊢
              simp only [T.sel, Option.some.injEq, Prod.mk.injEq] at h'
              obtain ⟨rfl, rfl, rfl⟩ := h'
              exact ⟨φ1, trivial, ha1, hs1, he1⟩
            · rw [if_neg hid] at h' ⊢
              simp only [T.sel, Option.some.injEq, Prod.mk.injEq] at h'
              obtain ⟨rfl, rfl, rfl⟩ := h'
              exact ⟨φ1, rfl, ha1, hs1, he1⟩
          | ret =>
            simp only [T.sel, Option.some.injEq, Prod.mk.injEq] at h
            obtain ⟨rfl, rfl, rfl⟩ := h
            cases e <;> simp only [XR] at hx
            exact ⟨φ1, trivial, ha1, hs1, he1⟩
          | pan v =>
            simp only [T.sel, Option.some.injEq, Prod.mk.injEq] at h
            obtain ⟨rfl, rfl, rfl⟩ := h
            cases e <;> simp only [XR] at hx
            exact ⟨φ1, hx, ha1, hs1, he1⟩
      | _ => simp [ev_succ, evStep, T.sel] at h
    refine ⟨hev, hloop, ?_⟩
    intro c a st rm x a' st' rm' h φ A W c0 cs ha hs hm
    -- through plain code
    have plain : ∀ (t : T (X × Regs × St)) (c : Code), (t.bind fun r => T.ret (r.1, r.2.1, r.2.2, rm)).sel η = some (x, a', st', rm') → (∀ x1 a1 st1, t.sel η = some (x1, a1, st1) → c.wp P (Post η φ W x1 a1 st1) A W) → c.wpS P (PostS η φ W c0 cs x a' st' rm') A (c0 :: cs) W := by
      intro t c h ht
      rw [T.sel_bind] at h
      cases hr : t.sel η with
      | none => rw [hr] at h; simp at h
      | some q =>
        obtain ⟨x1, a1, st1⟩ := q
        rw [hr] at h
        simp only [Option.bind_some, T.sel, Option.some.injEq, Prod.mk.injEq] at h
        obtain ⟨rfl, rfl, rfl, rfl⟩ := h
        refine wpS_of_wp (wp_mono (ht _ _ _ hr) ?_)
        rintro e A1 W1 ⟨φ1, k1, k2, k3, k4⟩
        exact ⟨φ1, c0.mode, rfl, hm.mono k4.mono, k1, k2, k3, k4⟩
    cases c with
    | seq y z =>
      simp only [evD_succ, evDStep] at h
      rw [T.sel_bind] at h
      cases hr : (evD P sm n y a st rm).sel η with
      | none => rw [hr] at h; simp at h
      | some q =>
        obtain ⟨x1, a1, st1, rm1⟩ := q
        rw [hr] at h
        simp only [Option.bind_some] at h
        refine wpS_seq (wpS_mono (ihd y a st rm x1 a1 st1 rm1 hr φ A W c0 cs ha hs hm) ?_)
        rintro e A1 cs1 W1 ⟨φ1, u1, rfl, hm1, hx, ha1, hs1, he1⟩
        cases x1 with
        | normal =>
          cases e <;> simp only [XR] at hx
          show z.wpS P _ A1 _ W1
          exact wpS_mono (ihd z a1 st1 rm1 x a' st' rm' h φ1 A1 W1 { c0 with mode := u1 } cs ha1 hs1 hm1) (fun e2 A2 cs2 W2 p => PostS.ext he1 p)
        | exit i =>
          simp only [T.sel, Option.some.injEq, Prod.mk.injEq] at h
          obtain ⟨rfl, rfl, rfl, rfl⟩ := h
          cases e <;> simp only [XR] at hx
          exact ⟨φ1, u1, rfl, hm1, hx, ha1, hs1, he1⟩
        | ret =>
          simp only [T.sel, Option.some.injEq, Prod.mk.injEq] at h
          obtain ⟨rfl, rfl, rfl, rfl⟩ := h
          cases e <;> simp only [XR] at hx
          exact ⟨φ1, u1, rfl, hm1, trivial, ha1, hs1, he1⟩
        | pan v =>
          simp only [T.sel, Option.some.injEq, Prod.mk.injEq] at h
          obtain ⟨rfl, rfl, rfl, rfl⟩ := h
          cases e <;> simp only [XR] at hx
          exact ⟨φ1, u1, rfl, hm1, hx, ha1, hs1, he1⟩
    | region id ops draw =>
      cases draw with
      | true =>
        simp only [evD_succ, evDStep] at h
        exact plain _ _ h (fun x1 a1 st1 hr => ih _ _ _ _ _ _ hr φ A W ha hs)
      | false =>
        simp only [evD_succ, evDStep] at h
        split at h
        · exact wpS_region (runOpsR_ok hP hcall ops _ _ _ _ _ _ _ _ h φ A W c0 cs ha hs hm)
        · rw [T.sel_bind] at h
          cases hr : (runOps P (callE P sm (ev P sm n) (evD P sm n)) ops ops.toList a st).sel η with
          | none => rw [hr] at h; simp at h
          | some ox =>
            rw [hr] at h
            exact plain (oxX ox) _ h (fun x1 a1 st1 hx => wp_region_list (runOps_ok hP hcall ops _ _ _ _ hr φ A W _ ha hs (oxX_post hx)))
    | _ =>
      simp only [evD_succ, evDStep] at h
      exact plain _ _ h (fun x1 a1 st1 hr => ih _ _ _ _ _ _ hr φ A W ha hs)
end
end
end Go.Proofs.YtbobnbndbgpanaaGreat.Sx
