/- Instructions: the contracts of the small functions. -/
import Derived.Test.YtloihfdiabbcpaaProg
import Derived.Test.YtloihfdiabbcpaaSxSum
import Derived.Test.YtloihfdiabbcpaaInSpec
namespace Go.Proofs.Ytloihfdiabbcpaa.Sx
open Go Go.RowKit
set_option linter.unusedVariables false
set_option linter.unusedSimpArgs false
set_option maxRecDepth 100000
/-! ### The number of a word -/
def numX (f : Nat) : E := (pcs f).foldl (fun x p => .bits .or .i64 x (.shl .i64 (.bits .and .u32 (.shr .u32 (.var 0) (.lit p.2.2)) (.lit p.2.1)) (.lit p.1))) (.lit 0)
def numT (f : Nat) : T V := if shS f then .node (.cmp .neq (.shr .i64 (numX f) (.lit (shB f - 1))) (.lit 0)) (.ret (.int .i64 (.wrap .i64 (.sub (numX f) (.lit (2 ^ (shB f).toNat)))))) (.ret (.int .i64 (numX f))) else .ret (.int .i64 (numX f))
def numV (f : Nat) (w : Int) : Int := (pcs f).foldl (fun x p => bitsI .or .i64 x (IntKind.i64.wrap (bitsI .and .u32 (w.fdiv (2 ^ shN .u32 p.2.2)) p.2.1 * 2 ^ shN .i64 p.1))) 0
def numI (f : Nat) (w : Int) : Int := if shS f = true ∧ (numV f w).fdiv (2 ^ shN .i64 (shB f - 1)) ≠ 0 then IntKind.i64.wrap (numV f w - 2 ^ (shB f).toNat) else numV f w
theorem numX_den (η : Env) (f : Nat) : (numX f).den η = numV f (η.i 0) := by
  unfold numX numV
  have h : ∀ (l : List (Int × Int × Int)) (e : E) (x : Int), e.den η = x → (l.foldl (fun x p => E.bits .or .i64 x (.shl .i64 (.bits .and .u32 (.shr .u32 (.var 0) (.lit p.2.2)) (.lit p.2.1)) (.lit p.1))) e).den η =
      l.foldl (fun x p => bitsI .or .i64 x (IntKind.i64.wrap (bitsI .and .u32 ((η.i 0).fdiv (2 ^ shN .u32 p.2.2)) p.2.1 * 2 ^ shN .i64 p.1))) x := by
    intro l
    induction l with
    | nil => intro e x h; exact h
    | cons p l ih => intro e x h; exact ih _ _ (by simp only [E.den, h])
  exact h _ _ _ rfl
theorem numT_gives (η : Env) (f : Nat) : (numT f).gives η (.int .i64 (numI f (η.i 0))) := by
  unfold numT numI
  cases shS f with
  | false => simp only [T.gives, V.val, numX_den, Bool.false_eq_true, if_false, false_and]
  | true =>
    simp only [if_true, T.gives, V.val, B.prop, E.den, propI, numX_den, true_and]
    refine ⟨fun h => by rw [if_pos h], fun h => by rw [if_neg h]⟩
/-! ### What the letters mean -/
def inFb (i : Nat) (a _b _c : Int) : Bool := if i = 20 then regF false a else if i = 21 then regF true a else false
def inFb5 (i : Nat) (a b c d e : Int) : Bool := if i = 10 then fitsF (isShape a (b == 1) (c == 1)) d else if i = 1 then encB rowsL a.toNat b c d e else false
def inFi5 (i : Nat) (a b c d e : Int) : Int := if i = 1 then encI rowsL a.toNat b c d e else 0
def decR (w : Int) : Option Rw := rowsL.find? fun r => bitsI .and .u32 w (mask r.form) == r.bits
def fldI (may : Bool) (p w : Int) : Int := if may then bitsI .and .u32 (w.fdiv (2 ^ shN .u32 p)) 31 else 0
def inFs (i : Nat) (w : Int) : ByteArray := match decR w with
  | some r => ⟨r.name.toArray⟩
  | none => ⟨([] : List UInt8).toArray⟩
def inFi (i : Nat) (a b _c : Int) : Int :=
  if i = 30 then numI a.toNat b
  else match decR a with
    | some r => if i = 3 then fldI (hasD r.form) 7 a else if i = 4 then fldI (has1 r.form) 15 a else if i = 5 then fldI (has2 r.form) 20 a else if i = 6 then numI r.form a else if i = 8 then rowOf rowsL r.name else 0
    | none => if i = 7 then 70 else if i = 8 then 47 else 0
structure InEnv (η : Env) : Prop where
  fb : η.fb = inFb
  fb5 : η.fb5 = inFb5
  fi : η.fi = inFi
  fi5 : η.fi5 = inFi5
  fs : η.fs = inFs
  idx : ∀ j, η.i (100 + j) = rowOf rowsL (η.s j).toList
theorem okV {η : Env} {P : Program} (hP : Plain P) (hM : P.follows .mixedOrders = true) {sm : Summary} (hsm : SumOk η P sm) {n : Nat} {f : FuncId} {args : List V} {args' : List Value} {v : V} (hargs : VRs η noPlace args args') {facts : List (B × Bool)} (hf : ∀ p ∈ facts, p.1.den η = p.2)
    (h : (callTop P sm n f args facts).sel η = some v) (hg : ground 6 v = true) (W : World) :
    Calls P f args'.toArray W fun e W' => ∃ v', e = .returned v' ∧ (∀ φ, VR η φ v v') ∧ Below W.heap.size W W' := by
  refine (callTop_ok hP hM hsm hargs hf h W).mono ?_
  rintro e W' ⟨v', φ, rfl, h3, h4⟩
  exact ⟨v', rfl, fun φ' => ground_vr 6 v v' hg h3, h4⟩
theorem in_plain : Plain Try.prog := plain_of (by kernel_rfl)
theorem in_follows : Try.prog.follows .mixedOrders = true := by kernel_rfl
theorem rows_eq : callTop Try.prog noSum 60 14 [] [] = .ret rowsV := by kernel_rfl
theorem rows_ground : ground 6 rowsV = true := by kernel_rfl
def regT (b : Bool) : T V := .node (.cmp .geq (.var 0) (.lit 0)) (.node (.cmp .lss (.var 0) (.lit 32)) (.ret (.tuple [.int .u32 (.shl .u32 (.wrap .u32 (.bits .and .i64 (.var 0) (.lit 31))) (.var 1)), .bool (if b then .lit true else .cmp .eql (.var 0) (.lit 0))]))
  (.ret (.tuple [.int .u32 (.shl .u32 (.wrap .u32 (.bits .and .i64 (.var 0) (.lit 31))) (.var 1)), .bool (.lit false)]))) (.ret (.tuple [.int .u32 (.shl .u32 (.wrap .u32 (.bits .and .i64 (.var 0) (.lit 31))) (.var 1)), .bool (.lit false)]))
theorem regT_eq : ∀ b : Bool, callTop Try.prog noSum 60 26 [.int .i64 (.var 0), .bool (.lit b), .int .u64 (.var 1)] [(.cmp .lss (.var 1) (.lit 0), false)] = regT b
  | true => by kernel_rfl
  | false => by kernel_rfl
theorem reg_calls (b : Bool) (k p : Int) (hp : 0 ≤ p) (W : World) : Calls Try.prog 26 #[.int .i64 k, .bool b, .int .u64 p] W fun e W' => e = .returned (.tuple #[.int .u32 (regW p k), .bool (regF b k)]) ∧ Below W.heap.size W W' := by
  refine contract (η := { i := fun n => if n = 0 then k else p }) in_plain in_follows (noSum_ok _ _) (n := 60) (args := [.int .i64 (.var 0), .bool (.lit b), .int .u64 (.var 1)]) (args' := [.int .i64 k, .bool b, .int .u64 p])
    (.cons _ _ _ _ (.int _ _) (.cons _ _ _ _ (.bool _) (.cons _ _ _ _ (.int _ _) .nil))) (facts := [(.cmp .lss (.var 1) (.lit 0), false)]) (fun q hq => by simp at hq; subst hq; simp [B.den, E.den, cmpI]; omega) ?_ W
  rw [regT_eq]
  have e : regW p k = IntKind.u32.wrap (IntKind.u32.wrap (bitsI .and .i64 k 31) * 2 ^ shN .u32 p) := rfl
  cases b
  · simp only [regT, T.gives, V.val, V.vals, B.prop, B.den, E.den, propI, Option.map_some, Option.some.injEq, Value.tuple.injEq, e, regF, Bool.false_eq_true, if_false]
    refine ⟨fun h1 => ⟨fun h2 => ?_, fun h2 => ?_⟩, fun h1 => ?_⟩ <;> simp_all [cmpI]
    all_goals first | omega | (rw [Bool.eq_iff_iff]; simp)
  · simp only [regT, T.gives, V.val, V.vals, B.prop, B.den, E.den, propI, Option.map_some, Option.some.injEq, Value.tuple.injEq, e, regF, if_true]
    refine ⟨fun h1 => ⟨fun h2 => ?_, fun h2 => ?_⟩, fun h1 => ?_⟩ <;> simp_all [cmpI]
    all_goals first | omega | (rw [Bool.eq_iff_iff]; simp)
def fitsT (f : Nat) : T V := .node (.cmp .geq (.var 0) (.lit (least f))) (.node (.cmp .leq (.var 0) (.lit (most f))) (.ret (.bool (if shE f then .cmp .eql (.rem (.var 0) (.lit 2)) (.lit 0) else .lit true))) (.ret (.bool (.lit false)))) (.ret (.bool (.lit false)))
theorem fitsT_eq0 : callTop Try.prog noSum 60 25 [.agg [.int .u64 (.lit 20), .bool (.lit false), .bool (.lit false)], .int .i64 (.var 0)] [] = fitsT 0 := by kernel_rfl
theorem fitsT_eq1 : callTop Try.prog noSum 60 25 [.agg [.int .u64 (.lit 21), .bool (.lit true), .bool (.lit true)], .int .i64 (.var 0)] [] = fitsT 1 := by kernel_rfl
theorem fitsT_eq2 : callTop Try.prog noSum 60 25 [.agg [.int .u64 (.lit 12), .bool (.lit true), .bool (.lit false)], .int .i64 (.var 0)] [] = fitsT 2 := by kernel_rfl
theorem fitsT_eq3 : callTop Try.prog noSum 60 25 [.agg [.int .u64 (.lit 5), .bool (.lit false), .bool (.lit false)], .int .i64 (.var 0)] [] = fitsT 3 := by kernel_rfl
theorem fitsT_eq4 : callTop Try.prog noSum 60 25 [.agg [.int .u64 (.lit 13), .bool (.lit true), .bool (.lit true)], .int .i64 (.var 0)] [] = fitsT 4 := by kernel_rfl
theorem fitsT_eq6 : callTop Try.prog noSum 60 25 [.agg [.int .u64 (.lit 0), .bool (.lit false), .bool (.lit false)], .int .i64 (.var 0)] [] = fitsT 6 := by kernel_rfl
theorem fitsT_gives (η : Env) (f : Nat) : (fitsT f).gives η (.bool (fitsF f (η.i 0))) := by
  unfold fitsT fitsF
  cases shE f
  · simp only [T.gives, V.val, B.prop, B.den, E.den, propI, Option.some.injEq, Bool.false_eq_true, if_false]
    refine ⟨fun h1 => ⟨fun h2 => ?_, fun h2 => ?_⟩, fun h1 => ?_⟩ <;> simp_all
    all_goals omega
  · simp only [T.gives, V.val, B.prop, B.den, E.den, propI, Option.some.injEq, if_true]
    refine ⟨fun h1 => ⟨fun h2 => ?_, fun h2 => ?_⟩, fun h1 => ?_⟩ <;> simp_all [cmpI]
    all_goals first | omega | (rw [Bool.eq_iff_iff]; simp)
theorem fits_one {b : Int} {s e : Bool} {f : Nat} (h : callTop Try.prog noSum 60 25 [.agg [.int .u64 (.lit b), .bool (.lit s), .bool (.lit e)], .int .i64 (.var 0)] [] = fitsT f) (n : Int) (W : World) :
    Calls Try.prog 25 #[.agg #[.int .u64 b, .bool s, .bool e], .int .i64 n] W fun x W' => x = .returned (.bool (fitsF f n)) ∧ Below W.heap.size W W' := by
  refine contract (η := { i := fun _ => n }) in_plain in_follows (noSum_ok _ _) (n := 60) (args := [.agg [.int .u64 (.lit b), .bool (.lit s), .bool (.lit e)], .int .i64 (.var 0)]) (args' := [.agg #[.int .u64 b, .bool s, .bool e], .int .i64 n])
    (.cons _ _ _ _ (.agg _ [.int .u64 b, .bool s, .bool e] (.cons _ _ _ _ (.int _ (.lit b)) (.cons _ _ _ _ (.bool (.lit s)) (.cons _ _ _ _ (.bool (.lit e)) .nil)))) (.cons _ _ _ _ (.int _ _) .nil)) facts_none ?_ W
  rw [h]
  exact fitsT_gives _ f
theorem fits_calls (b : Int) (s e : Bool) (n : Int) (h : isShape b s e ≠ 9) (W : World) : Calls Try.prog 25 #[.agg #[.int .u64 b, .bool s, .bool e], .int .i64 n] W fun x W' => x = .returned (.bool (fitsF (isShape b s e) n)) ∧ Below W.heap.size W W' := by
  unfold isShape at h ⊢
  split
  · rename_i q; obtain ⟨rfl, rfl, rfl⟩ := q; exact fits_one fitsT_eq0 n W
  rename_i q0; rw [if_neg q0] at h
  split
  · rename_i q; obtain ⟨rfl, rfl, rfl⟩ := q; exact fits_one fitsT_eq1 n W
  rename_i q1; rw [if_neg q1] at h
  split
  · rename_i q; obtain ⟨rfl, rfl, rfl⟩ := q; exact fits_one fitsT_eq2 n W
  rename_i q2; rw [if_neg q2] at h
  split
  · rename_i q; obtain ⟨rfl, rfl, rfl⟩ := q; exact fits_one fitsT_eq3 n W
  rename_i q3; rw [if_neg q3] at h
  split
  · rename_i q; obtain ⟨rfl, rfl, rfl⟩ := q; exact fits_one fitsT_eq4 n W
  rename_i q4; rw [if_neg q4] at h
  split
  · rename_i q; obtain ⟨rfl, rfl, rfl⟩ := q; exact fits_one fitsT_eq6 n W
  rename_i q6; rw [if_neg q6] at h
  exact absurd rfl h
theorem numT_eq0 : callTop Try.prog noSum 60 18 [.int .i64 (.lit 0), .int .u32 (.var 0)] [] = numT 0 := by kernel_rfl
theorem numT_eq1 : callTop Try.prog noSum 60 18 [.int .i64 (.lit 1), .int .u32 (.var 0)] [] = numT 1 := by kernel_rfl
theorem numT_eq2 : callTop Try.prog noSum 60 18 [.int .i64 (.lit 2), .int .u32 (.var 0)] [] = numT 2 := by kernel_rfl
theorem numT_eq3 : callTop Try.prog noSum 60 18 [.int .i64 (.lit 3), .int .u32 (.var 0)] [] = numT 3 := by kernel_rfl
theorem numT_eq4 : callTop Try.prog noSum 60 18 [.int .i64 (.lit 4), .int .u32 (.var 0)] [] = numT 4 := by kernel_rfl
theorem numT_eq5 : callTop Try.prog noSum 60 18 [.int .i64 (.lit 5), .int .u32 (.var 0)] [] = numT 5 := by kernel_rfl
theorem numT_eq6 : callTop Try.prog noSum 60 18 [.int .i64 (.lit 6), .int .u32 (.var 0)] [] = numT 6 := by kernel_rfl
theorem numT_eq7 : callTop Try.prog noSum 60 18 [.int .i64 (.lit 7), .int .u32 (.var 0)] [] = numT 7 := by kernel_rfl
theorem num_calls (f w : Int) (h : 0 ≤ f ∧ f < 8) (W : World) : Calls Try.prog 18 #[.int .i64 f, .int .u32 w] W fun e W' => e = .returned (.int .i64 (numI f.toNat w)) ∧ Below W.heap.size W W' := by
  obtain rfl | rfl | rfl | rfl | rfl | rfl | rfl | rfl : f = 0 ∨ f = 1 ∨ f = 2 ∨ f = 3 ∨ f = 4 ∨ f = 5 ∨ f = 6 ∨ f = 7 := by omega
  · refine contract (η := { i := fun _ => w }) in_plain in_follows (noSum_ok _ _) (n := 60) (args := [.int .i64 (.lit 0), .int .u32 (.var 0)]) (args' := [.int .i64 0, .int .u32 w]) (.cons _ _ _ _ (.int _ (.lit 0)) (.cons _ _ _ _ (.int _ _) .nil)) facts_none ?_ W
    rw [numT_eq0]; exact numT_gives _ 0
  · refine contract (η := { i := fun _ => w }) in_plain in_follows (noSum_ok _ _) (n := 60) (args := [.int .i64 (.lit 1), .int .u32 (.var 0)]) (args' := [.int .i64 1, .int .u32 w]) (.cons _ _ _ _ (.int _ (.lit 1)) (.cons _ _ _ _ (.int _ _) .nil)) facts_none ?_ W
    rw [numT_eq1]; exact numT_gives _ 1
  · refine contract (η := { i := fun _ => w }) in_plain in_follows (noSum_ok _ _) (n := 60) (args := [.int .i64 (.lit 2), .int .u32 (.var 0)]) (args' := [.int .i64 2, .int .u32 w]) (.cons _ _ _ _ (.int _ (.lit 2)) (.cons _ _ _ _ (.int _ _) .nil)) facts_none ?_ W
    rw [numT_eq2]; exact numT_gives _ 2
  · refine contract (η := { i := fun _ => w }) in_plain in_follows (noSum_ok _ _) (n := 60) (args := [.int .i64 (.lit 3), .int .u32 (.var 0)]) (args' := [.int .i64 3, .int .u32 w]) (.cons _ _ _ _ (.int _ (.lit 3)) (.cons _ _ _ _ (.int _ _) .nil)) facts_none ?_ W
    rw [numT_eq3]; exact numT_gives _ 3
  · refine contract (η := { i := fun _ => w }) in_plain in_follows (noSum_ok _ _) (n := 60) (args := [.int .i64 (.lit 4), .int .u32 (.var 0)]) (args' := [.int .i64 4, .int .u32 w]) (.cons _ _ _ _ (.int _ (.lit 4)) (.cons _ _ _ _ (.int _ _) .nil)) facts_none ?_ W
    rw [numT_eq4]; exact numT_gives _ 4
  · refine contract (η := { i := fun _ => w }) in_plain in_follows (noSum_ok _ _) (n := 60) (args := [.int .i64 (.lit 5), .int .u32 (.var 0)]) (args' := [.int .i64 5, .int .u32 w]) (.cons _ _ _ _ (.int _ (.lit 5)) (.cons _ _ _ _ (.int _ _) .nil)) facts_none ?_ W
    rw [numT_eq5]; exact numT_gives _ 5
  · refine contract (η := { i := fun _ => w }) in_plain in_follows (noSum_ok _ _) (n := 60) (args := [.int .i64 (.lit 6), .int .u32 (.var 0)]) (args' := [.int .i64 6, .int .u32 w]) (.cons _ _ _ _ (.int _ (.lit 6)) (.cons _ _ _ _ (.int _ _) .nil)) facts_none ?_ W
    rw [numT_eq6]; exact numT_gives _ 6
  · refine contract (η := { i := fun _ => w }) in_plain in_follows (noSum_ok _ _) (n := 60) (args := [.int .i64 (.lit 7), .int .u32 (.var 0)]) (args' := [.int .i64 7, .int .u32 w]) (.cons _ _ _ _ (.int _ (.lit 7)) (.cons _ _ _ _ (.int _ _) .nil)) facts_none ?_ W
    rw [numT_eq7]; exact numT_gives _ 7
theorem sumA_ok (η : Env) (h : InEnv η) : SumOk η Try.prog sumA := by
  refine SumOk.put (SumOk.put (SumOk.put (SumOk.put (noSum_ok _ _) ?_) ?_) ?_) ?_
  · intro args v hv φ args' W ha
    unfold rowsG at hv
    split at hv
    · simp only [Option.some.injEq] at hv; subst hv
      cases ha
      exact okV in_plain in_follows (noSum_ok η _) (n := 60) (args := []) (args' := []) .nil facts_none (by rw [rows_eq]; rfl) rows_ground W
    · simp at hv
  · intro args v hv φ args' W ha
    unfold regG at hv
    split at hv
    · rename_i k b p
      split at hv
      · rename_i hp
        simp only [Option.some.injEq] at hv; subst hv
        cases ha with | cons _ _ _ _ h1 t =>
        cases t with | cons _ _ _ _ h2 t =>
        cases t with | cons _ _ _ _ h3 t =>
        cases t with | nil =>
        cases h1 with | int =>
        cases h2 with | bool =>
        cases h3 with | int =>
        refine (reg_calls b (k.den η) p hp W).mono ?_
        rintro ex W' ⟨rfl, hb⟩
        refine ⟨_, rfl, fun φ => V.val_ok _ _ ?_, hb⟩
        have e1 : (regB b k).den η = regF b (k.den η) := by cases b <;> simp only [regB, B.den, E.den, h.fb] <;> rfl
        simp only [V.val, V.vals, e1]; rfl
      · simp at hv
    · simp at hv
  · intro args v hv φ args' W ha
    unfold fitsG at hv
    split at hv
    · rename_i b s e n
      split at hv
      · simp at hv
      rename_i hs
      simp only [Option.some.injEq] at hv; subst hv
      cases ha with | cons _ _ _ _ h1 t =>
      cases t with | cons _ _ _ _ h2 t =>
      cases t with | nil =>
      cases h2 with | int =>
      cases h1 with | agg _ l hl =>
      cases hl with | cons _ _ _ _ g1 t =>
      cases t with | cons _ _ _ _ g2 t =>
      cases t with | cons _ _ _ _ g3 t =>
      cases t with | nil =>
      cases g1 with | int =>
      cases g2 with | bool =>
      cases g3 with | bool =>
      refine (fits_calls b s e (n.den η) hs W).mono ?_
      rintro ex W' ⟨rfl, hb⟩
      refine ⟨_, rfl, fun φ => V.val_ok _ _ ?_, hb⟩
      have e1 : ((b01 s : Int) == 1) = s := by cases s <;> rfl
      have e2 : ((b01 e : Int) == 1) = e := by cases e <;> rfl
      simp only [V.val, B.den, E.den, h.fb5, inFb5, if_true, e1, e2]
    · simp at hv
  · intro args v hv φ args' W ha
    unfold numG at hv
    split at hv
    · rename_i f w
      split at hv
      · rename_i hf
        simp only [Option.some.injEq] at hv; subst hv
        cases ha with | cons _ _ _ _ h1 t =>
        cases t with | cons _ _ _ _ h2 t =>
        cases t with | nil =>
        cases h1 with | int =>
        cases h2 with | int =>
        refine (num_calls f (w.den η) hf W).mono ?_
        rintro ex W' ⟨rfl, hb⟩
        refine ⟨_, rfl, fun φ => V.val_ok _ _ ?_, hb⟩
        simp only [V.val, E.den, h.fi, inFi, if_true]
      · simp at hv
    · simp at hv
end Go.Proofs.Ytloihfdiabbcpaa.Sx
