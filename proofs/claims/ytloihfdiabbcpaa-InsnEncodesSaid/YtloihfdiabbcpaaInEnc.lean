/- Instructions: the contracts of Encode and Decode. -/
import Derived.Test.YtloihfdiabbcpaaProg
import Derived.Test.YtloihfdiabbcpaaSxSum
import Derived.Test.YtloihfdiabbcpaaInCon
namespace Go.Proofs.Ytloihfdiabbcpaa.Sx
open Go Go.RowKit
set_option linter.unusedVariables false
set_option linter.unusedSimpArgs false
set_option maxRecDepth 100000
theorem isShape_fits (f : Nat) (h : f < 8) (n : Int) : fitsF (isShape (shB f) (b01 (shS f) == 1) (b01 (shE f) == 1)) n = fitsF f n := by
  obtain rfl | rfl | rfl | rfl | rfl | rfl | rfl | rfl : f = 0 ∨ f = 1 ∨ f = 2 ∨ f = 3 ∨ f = 4 ∨ f = 5 ∨ f = 6 ∨ f = 7 := by omega
  all_goals rfl
theorem regB_prop {η : Env} (h : InEnv η) (may : Bool) (k : E) : (regB may k).prop η ↔ regF may (k.den η) = true := by
  cases may <;> simp only [regB, B.prop, E.den, h.fb] <;> exact Iff.rfl
def encRes (l : List Rw) (k : Nat) (a b c n : Int) : Value := .tuple #[.int .u32 (encI l k a b c n), .bool (encB l k a b c n)]
theorem encLeaf_gives {η : Env} (h : InEnv η) (r : Rw) (hf : r.form < 8) : (encLeaf r).gives η (.tuple #[.int .u32 (if okF r.form (η.i 0) (η.i 1) (η.i 2) (η.i 3) then encW r.form r.bits (η.i 0) (η.i 1) (η.i 2) (η.i 3) else 0), .bool (okF r.form (η.i 0) (η.i 1) (η.i 2) (η.i 3))]) := by
  have e5 : (B.fn5 10 (.lit (shB r.form)) (.lit (b01 (shS r.form))) (.lit (b01 (shE r.form))) (.var 3) (.lit 0)).prop η ↔ fitsF r.form (η.i 3) = true := by
    simp only [B.prop, E.den, h.fb5, inFb5, if_true, isShape_fits _ hf]
  unfold encLeaf okF
  simp only [T.gives, badT, e5, regB_prop h, E.den]
  generalize fitsF r.form (η.i 3) = x
  generalize regF (hasD r.form) (η.i 0) = y
  generalize regF (has1 r.form) (η.i 1) = z
  generalize regF (has2 r.form) (η.i 2) = u
  have hd := encE_den η r.form r.bits (.var 0) (.var 1) (.var 2) (.var 3)
  simp only [E.den] at hd
  cases x <;> cases y <;> cases z <;> cases u <;> simp [V.val, V.vals, B.den, E.den, hd]
theorem encT_gives {η : Env} (h : InEnv η) : ∀ l : List Rw, (∀ r ∈ l, r.form < 8) → (encT l).gives η (encRes l (rowOf l (η.s 0).toList) (η.i 0) (η.i 1) (η.i 2) (η.i 3))
  | [], _ => by simp only [encT, badT, T.gives, V.val, V.vals, E.den, B.den, encRes, encI, encB, rowOf]; rfl
  | r :: l, hl => by
    simp only [encT, T.gives, B.prop, S.den]
    have q : (⟨r.name.toArray⟩ : ByteArray).toList = r.name := by simp
    rw [q]
    refine ⟨fun e => ?_, fun e => ?_⟩
    · have := encLeaf_gives h r (hl r (by simp))
      simpa [encRes, rowOf, e.symm, encI, encB] using this
    · have := encT_gives h l (fun r hr => hl r (by simp [hr]))
      have hne : ¬ ((η.s 0).toList = r.name) := fun e' => e e'.symm
      simpa [encRes, rowOf, hne, encI, encB] using this
theorem forms_ok : ∀ r ∈ rowsL, r.form < 8 := by decide
def inEnv (i0 i1 i2 i3 : Int) (s : ByteArray) : Env :=
  { i := fun m => if m = 0 then i0 else if m = 1 then i1 else if m = 2 then i2 else if m = 3 then i3 else rowOf rowsL s.toList, s := fun _ => s, fb := inFb, fb5 := inFb5, fi := inFi, fi5 := inFi5, fs := inFs }
theorem inEnv_ok (i0 i1 i2 i3 : Int) (s : ByteArray) : InEnv (inEnv i0 i1 i2 i3 s) := ⟨rfl, rfl, rfl, rfl, rfl, fun j => by
  show (if 100 + j = 0 then i0 else if 100 + j = 1 then i1 else if 100 + j = 2 then i2 else if 100 + j = 3 then i3 else (rowOf rowsL s.toList : Int)) = _
  rw [if_neg (by omega), if_neg (by omega), if_neg (by omega), if_neg (by omega)]; rfl⟩
theorem encode_calls (s : ByteArray) (a b c n : Int) (W : World) : Calls Try.prog 12 #[.agg #[.string s, .int .i64 a, .int .i64 b, .int .i64 c, .int .i64 n]] W fun e W' => e = .returned (encRes rowsL (rowOf rowsL s.toList) a b c n) ∧ Below W.heap.size W W' := by
  refine contract (η := inEnv a b c n s) in_plain in_follows (sumA_ok _ (inEnv_ok a b c n s)) (n := 300) (args := [.agg [.str (.var 0), .int .i64 (.var 0), .int .i64 (.var 1), .int .i64 (.var 2), .int .i64 (.var 3)]]) (args' := [.agg #[.string s, .int .i64 a, .int .i64 b, .int .i64 c, .int .i64 n]])
    (.cons _ _ _ _ (.agg _ [.string s, .int .i64 a, .int .i64 b, .int .i64 c, .int .i64 n] (.cons _ _ _ _ (.str (.var 0)) (.cons _ _ _ _ (.int _ (.var 0)) (.cons _ _ _ _ (.int _ (.var 1)) (.cons _ _ _ _ (.int _ (.var 2)) (.cons _ _ _ _ (.int _ (.var 3)) .nil)))))) .nil) facts_none ?_ W
  rw [enc_eq]
  exact encT_gives (inEnv_ok a b c n s) rowsL forms_ok
/-! ### Decode -/
def decRes (o : Option Rw) (w : Int) : Value := match o with
  | some r => .tuple #[.agg #[.string ⟨r.name.toArray⟩, .int .i64 (fldI (hasD r.form) 7 w), .int .i64 (fldI (has1 r.form) 15 w), .int .i64 (fldI (has2 r.form) 20 w), .int .i64 (numI r.form w)], .int .i64 0]
  | none => .tuple #[.agg #[.string ⟨([] : List UInt8).toArray⟩, .int .i64 0, .int .i64 0, .int .i64 0, .int .i64 0], .int .i64 70]
theorem fldE_val {η : Env} (may : Bool) (p : Int) : V.val η (fldE may p) = some (.int .i64 (fldI may p (η.i 0))) := by
  cases may <;> rfl
theorem decLeaf_gives {η : Env} (h : InEnv η) (r : Rw) : (decLeaf r).gives η (decRes (some r) (η.i 0)) := by
  simp only [decLeaf, T.gives, V.val, V.vals, fldE_val, E.den, h.fi, inFi, if_true, S.den, decRes, Int.toNat_natCast]; rfl
theorem decT_gives {η : Env} (h : InEnv η) : ∀ l : List Rw, (decT l).gives η (decRes (l.find? fun r => bitsI .and .u32 (η.i 0) (mask r.form) == r.bits) (η.i 0))
  | [] => by simp only [decT, T.gives, V.val, V.vals, E.den, S.den, List.find?_nil, decRes]; rfl
  | r :: l => by
    simp only [decT, T.gives, B.prop, propI, E.den]
    refine ⟨fun e => ?_, fun e => ?_⟩
    · have := decT_gives h l
      rw [List.find?_cons_of_neg (by simpa using e)]; exact this
    · rw [List.find?_cons_of_pos (by simpa using e)]; exact decLeaf_gives h r
theorem decode_calls (w : Int) (W : World) : Calls Try.prog 9 #[.int .u32 w] W fun e W' => e = .returned (decRes (decR w) w) ∧ Below W.heap.size W W' := by
  refine contract (η := inEnv w 0 0 0 ⟨#[]⟩) in_plain in_follows (sumA_ok _ (inEnv_ok w 0 0 0 ⟨#[]⟩)) (n := 300) (args := [.int .u32 (.var 0)]) (args' := [.int .u32 w]) (.cons _ _ _ _ (.int _ _) .nil) facts_none ?_ W
  rw [dec_eq]
  exact decT_gives (inEnv_ok w 0 0 0 ⟨#[]⟩) rowsL
/-! ### As contracts -/
def nameX (l : List UInt8) : Nat := rowOf rowsL l
def opI : S → E
  | .lit l => .lit (nameX l)
  | .var j => .var (100 + j)
  | .fn _ a => .fn 8 a (.lit 0) (.lit 0)
def encG : List V → Option V
  | [.agg [.str s, .int .i64 a, .int .i64 b, .int .i64 c, .int .i64 n]] => some (.tuple [.int .u32 (.fn5 1 (opI s) a b c n), .bool (.fn5 1 (opI s) a b c n)])
  | _ => none
def decG : List V → Option V
  | [.int .u32 w] => some (.tuple [.agg [.str (.fn 1 w), .int .i64 (.fn 3 w (.lit 0) (.lit 0)), .int .i64 (.fn 4 w (.lit 0) (.lit 0)), .int .i64 (.fn 5 w (.lit 0) (.lit 0)), .int .i64 (.fn 6 w (.lit 0) (.lit 0))], .int .i64 (.fn 7 w (.lit 0) (.lit 0))])
  | _ => none
def sumB : Summary := (Summary.put noSum 12 encG).put 9 decG
theorem opI_den {η : Env} (h : InEnv η) (s : S) : (opI s).den η = rowOf rowsL (s.den η).toList := by
  cases s with
  | lit l => simp [opI, nameX, E.den, S.den]
  | var j => exact h.idx j
  | fn i a =>
    simp only [opI, E.den, S.den, h.fi, h.fs, inFi, inFs]
    rw [if_neg (by decide)]
    split
    · simp
    · simp; decide
theorem sumB_ok (η : Env) (h : InEnv η) : SumOk η Try.prog sumB := by
  refine SumOk.put (SumOk.put (noSum_ok _ _) ?_) ?_
  · intro args v hv φ args' W ha
    unfold encG at hv
    split at hv
    · rename_i s a b c n
      simp only [Option.some.injEq] at hv; subst hv
      cases ha with | cons _ _ _ _ h1 t =>
      cases t with | nil =>
      cases h1 with | agg _ l hl =>
      cases hl with | cons _ _ _ _ g1 t =>
      cases t with | cons _ _ _ _ g2 t =>
      cases t with | cons _ _ _ _ g3 t =>
      cases t with | cons _ _ _ _ g4 t =>
      cases t with | cons _ _ _ _ g5 t =>
      cases t with | nil =>
      cases g1 with | str =>
      cases g2 with | int =>
      cases g3 with | int =>
      cases g4 with | int =>
      cases g5 with | int =>
      refine (encode_calls (s.den η) (a.den η) (b.den η) (c.den η) (n.den η) W).mono ?_
      rintro ex W' ⟨rfl, hb⟩
      refine ⟨_, rfl, fun φ => V.val_ok _ _ ?_, hb⟩
      simp only [V.val, V.vals, E.den, B.den, h.fi5, h.fb5, inFi5, inFb5, opI_den h, if_true, encRes, Int.toNat_natCast]; rfl
    · simp at hv
  · intro args v hv φ args' W ha
    unfold decG at hv
    split at hv
    · rename_i w
      simp only [Option.some.injEq] at hv; subst hv
      cases ha with | cons _ _ _ _ h1 t =>
      cases t with | nil =>
      cases h1 with | int =>
      refine (decode_calls (w.den η) W).mono ?_
      rintro ex W' ⟨rfl, hb⟩
      refine ⟨_, rfl, fun φ => V.val_ok _ _ ?_, hb⟩
      simp only [V.val, V.vals, E.den, S.den, h.fi, h.fs, inFi, inFs, decRes]
      cases decR (w.den η) <;> rfl
    · simp at hv
end Go.Proofs.Ytloihfdiabbcpaa.Sx
