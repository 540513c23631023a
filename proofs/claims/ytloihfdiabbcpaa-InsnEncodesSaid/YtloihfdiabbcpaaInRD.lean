/- The document's Decode answers what insn.Decode does. -/
import Derived.Test.YtloihfdiabbcpaaProg
import Derived.Test.YtloihfdiabbcpaaSxSum
import Derived.Test.YtloihfdiabbcpaaInFin
import Derived.Test.YtloihfdiabbcpaaInOf
namespace Go.Proofs.Ytloihfdiabbcpaa.Sx
open Go Go.RowKit
set_option linter.unusedVariables false
set_option linter.unusedSimpArgs false
set_option maxRecDepth 100000
def formX (l : List UInt8) : Nat := if l = [85] then 0 else if l = [74] then 1 else if l = [73] then 2 else if l = [115, 104, 105, 102, 116] then 3 else if l = [66] then 4 else if l = [83] then 5 else if l = [82] then 6 else if l = [69] then 7 else 8
theorem takes_any (l : List UInt8) (h : formX l ≠ 8) (nm op : ByteArray) (o f3 f7 a b c n : Int) (W : World) : Calls Try.prog 21 #[.agg #[.string nm, .string ⟨l.toArray⟩, .int .i64 o, .int .i64 f3, .int .i64 f7], .agg #[.string op, .int .i64 a, .int .i64 b, .int .i64 c, .int .i64 n]] W fun e W' => e = .returned (.bool (okF (formX l) a b c n)) ∧ Below W.heap.size W W' := by
  unfold formX at h ⊢
  split
  · rename_i q; subst q; exact takes0_calls nm op o f3 f7 a b c n W
  rename_i q0; rw [if_neg q0] at h
  split
  · rename_i q; subst q; exact takes1_calls nm op o f3 f7 a b c n W
  rename_i q1; rw [if_neg q1] at h
  split
  · rename_i q; subst q; exact takes2_calls nm op o f3 f7 a b c n W
  rename_i q2; rw [if_neg q2] at h
  split
  · rename_i q; subst q; exact takes3_calls nm op o f3 f7 a b c n W
  rename_i q3; rw [if_neg q3] at h
  split
  · rename_i q; subst q; exact takes4_calls nm op o f3 f7 a b c n W
  rename_i q4; rw [if_neg q4] at h
  split
  · rename_i q; subst q; exact takes5_calls nm op o f3 f7 a b c n W
  rename_i q5; rw [if_neg q5] at h
  split
  · rename_i q; subst q; exact takes6_calls nm op o f3 f7 a b c n W
  rename_i q6; rw [if_neg q6] at h
  split
  · rename_i q; subst q; exact takes7_calls nm op o f3 f7 a b c n W
  rename_i q7; rw [if_neg q7] at h
  exact absurd rfl h
theorem word_any (l : List UInt8) (h : formX l ≠ 8) (nm op : ByteArray) (o f3 f7 a b c n : Int) (W : World) : Calls Try.prog 22 #[.agg #[.string nm, .string ⟨l.toArray⟩, .int .i64 o, .int .i64 f3, .int .i64 f7], .agg #[.string op, .int .i64 a, .int .i64 b, .int .i64 c, .int .i64 n]] W fun e W' => e = .returned (.int .i64 (wordV (formX l) nm o f3 f7 a b c n)) ∧ Below W.heap.size W W' := by
  unfold formX at h ⊢
  split
  · rename_i q; subst q; exact word0_calls nm op o f3 f7 a b c n W
  rename_i q0; rw [if_neg q0] at h
  split
  · rename_i q; subst q; exact word1_calls nm op o f3 f7 a b c n W
  rename_i q1; rw [if_neg q1] at h
  split
  · rename_i q; subst q; exact word2_calls nm op o f3 f7 a b c n W
  rename_i q2; rw [if_neg q2] at h
  split
  · rename_i q; subst q; exact word3_calls nm op o f3 f7 a b c n W
  rename_i q3; rw [if_neg q3] at h
  split
  · rename_i q; subst q; exact word4_calls nm op o f3 f7 a b c n W
  rename_i q4; rw [if_neg q4] at h
  split
  · rename_i q; subst q; exact word5_calls nm op o f3 f7 a b c n W
  rename_i q5; rw [if_neg q5] at h
  split
  · rename_i q; subst q; exact word6_calls nm op o f3 f7 a b c n W
  rename_i q6; rw [if_neg q6] at h
  split
  · rename_i q; subst q; exact word7_calls nm op o f3 f7 a b c n W
  rename_i q7; rw [if_neg q7] at h
  exact absurd rfl h
theorem of_any (l : List UInt8) (h : formX l ≠ 8) (nm : ByteArray) (o f3 f7 w : Int) (hw : 0 ≤ w ∧ w < 4294967296) (W : World) : Calls Try.prog 20 #[.agg #[.string nm, .string ⟨l.toArray⟩, .int .i64 o, .int .i64 f3, .int .i64 f7], .int .i64 w] W fun e W' => e = .returned (ofV (formX l) nm w) ∧ Below W.heap.size W W' := by
  unfold formX at h ⊢
  split
  · rename_i q; subst q; exact of0_calls nm o f3 f7 w hw W
  rename_i q0; rw [if_neg q0] at h
  split
  · rename_i q; subst q; exact of1_calls nm o f3 f7 w hw W
  rename_i q1; rw [if_neg q1] at h
  split
  · rename_i q; subst q; exact of2_calls nm o f3 f7 w hw W
  rename_i q2; rw [if_neg q2] at h
  split
  · rename_i q; subst q; exact of3_calls nm o f3 f7 w hw W
  rename_i q3; rw [if_neg q3] at h
  split
  · rename_i q; subst q; exact of4_calls nm o f3 f7 w hw W
  rename_i q4; rw [if_neg q4] at h
  split
  · rename_i q; subst q; exact of5_calls nm o f3 f7 w hw W
  rename_i q5; rw [if_neg q5] at h
  split
  · rename_i q; subst q; exact of6_calls nm o f3 f7 w hw W
  rename_i q6; rw [if_neg q6] at h
  split
  · rename_i q; subst q; exact of7_calls nm o f3 f7 w hw W
  rename_i q7; rw [if_neg q7] at h
  exact absurd rfl h
def takesG : List V → Option V
  | [.agg [.str _, .str (.lit f), .int .i64 _, .int .i64 _, .int .i64 _], .agg [.str _, .int .i64 a, .int .i64 b, .int .i64 c, .int .i64 n]] => if formX f = 8 then none else some (.bool (.fn5 50 (.lit (formX f)) a b c n))
  | _ => none
def wordG : List V → Option V
  | [.agg [.str (.lit nm), .str (.lit f), .int .i64 (.lit o), .int .i64 (.lit f3), .int .i64 (.lit f7)], .agg [.str _, .int .i64 a, .int .i64 b, .int .i64 c, .int .i64 n]] => match rowsL[nameX nm]? with
    | some r => if r.name = nm ∧ formX f = r.form ∧ formX f ≠ 8 ∧ o = r.bits % 128 ∧ f3 = r.bits / 4096 % 8 ∧ f7 = r.bits / 33554432 then some (.int .i64 (.fn5 60 (.lit (nameX nm)) a b c n)) else none
    | none => none
  | _ => none
def ofG : List V → Option V
  | [.agg [.str nm, .str (.lit f), .int .i64 _, .int .i64 _, .int .i64 _], .int .i64 w] => if formX f ≠ 8 ∧ w.beq (.var 0) = true then some (.agg [.str nm, .int .i64 (.fn 70 (.lit (formX f)) w (.lit 0)), .int .i64 (.fn 71 (.lit (formX f)) w (.lit 0)), .int .i64 (.fn 72 (.lit (formX f)) w (.lit 0)), .int .i64 (.fn 73 (.lit (formX f)) w (.lit 0))]) else none
  | _ => none
def ofFacts : List (B × Bool) := (List.range 8).map fun (f : Nat) => (.fn5 50 (.lit f) (.fn 70 (.lit f) (.var 0) (.lit 0)) (.fn 71 (.lit f) (.var 0) (.lit 0)) (.fn 72 (.lit f) (.var 0) (.lit 0)) (.fn 73 (.lit f) (.var 0) (.lit 0)), true)
def sumT : Summary := (Summary.put noSum 21 takesG).put 22 wordG
def sumR : Summary := sumT.put 20 ofG
def rfFb5 (i : Nat) (a b c d e : Int) : Bool := if i = 50 then okF a.toNat b c d e else false
def rfFi5 (i : Nat) (a b c d e : Int) : Int := if i = 60 then (match rowsL[a.toNat]? with | some r => wordI r b c d e | none => 0) else 0
def rfFi (i : Nat) (f w _c : Int) : Int := if i = 70 then fldI (hasD f.toNat) 7 w else if i = 71 then fldI (has1 f.toNat) 15 w else if i = 72 then fldI (has2 f.toNat) 20 w else if i = 73 then numI f.toNat w else 0
structure RefEnv (η : Env) : Prop where
  fb5 : η.fb5 = rfFb5
  fi5 : η.fi5 = rfFi5
  fi : η.fi = rfFi
theorem sumT_ok (η : Env) (h : RefEnv η) : SumOk η Try.prog sumT := by
  refine SumOk.put (SumOk.put (noSum_ok _ _) ?_) ?_
  · intro args v hv φ args' W ha
    unfold takesG at hv
    split at hv
    · rename_i nm f o f3 f7 op a b c n
      split at hv
      · simp at hv
      rename_i hf
      simp only [Option.some.injEq] at hv; subst hv
      cases ha with | cons _ _ _ _ h1 t =>
      cases t with | cons _ _ _ _ h2 t =>
      cases t with | nil =>
      cases h1 with | agg _ l hl =>
      cases hl with | cons _ _ _ _ g1 t =>
      cases t with | cons _ _ _ _ g2 t =>
      cases t with | cons _ _ _ _ g3 t =>
      cases t with | cons _ _ _ _ g4 t =>
      cases t with | cons _ _ _ _ g5 t =>
      cases t with | nil =>
      cases g1 with | str =>
      cases g2 with | str =>
      cases g3 with | int =>
      cases g4 with | int =>
      cases g5 with | int =>
      cases h2 with | agg _ l hl =>
      cases hl with | cons _ _ _ _ g1 t =>
      cases t with | cons _ _ _ _ g2 t =>
      cases t with | cons _ _ _ _ g3 t =>
      cases t with | cons _ _ _ _ g4 t =>
      cases t with | cons _ _ _ _ g5 t =>
      cases t with | nil =>
      cases g1 with | str =>
      cases g2 with | int =>
      cases g3 with | int =>
      cases g4 with | int =>
      cases g5 with | int =>
      refine (takes_any f hf _ _ _ _ _ (a.den η) (b.den η) (c.den η) (n.den η) W).mono ?_
      rintro ex W' ⟨rfl, hb⟩
      refine ⟨_, rfl, fun φ => V.val_ok _ _ ?_, hb⟩
      simp only [V.val, B.den, E.den, h.fb5, rfFb5, if_true, Int.toNat_natCast]
    · simp at hv
  · intro args v hv φ args' W ha
    unfold wordG at hv
    split at hv
    · rename_i nm f o f3 f7 op a b c n
      split at hv
      · rename_i r hr
        split at hv
        · rename_i hc
          obtain ⟨c1, c2, c3, c4, c5, c6⟩ := hc
          simp only [Option.some.injEq] at hv; subst hv
          cases ha with | cons _ _ _ _ h1 t =>
          cases t with | cons _ _ _ _ h2 t =>
          cases t with | nil =>
          cases h1 with | agg _ l hl =>
          cases hl with | cons _ _ _ _ g1 t =>
          cases t with | cons _ _ _ _ g2 t =>
          cases t with | cons _ _ _ _ g3 t =>
          cases t with | cons _ _ _ _ g4 t =>
          cases t with | cons _ _ _ _ g5 t =>
          cases t with | nil =>
          cases g1 with | str =>
          cases g2 with | str =>
          cases g3 with | int =>
          cases g4 with | int =>
          cases g5 with | int =>
          cases h2 with | agg _ l hl =>
          cases hl with | cons _ _ _ _ g1 t =>
          cases t with | cons _ _ _ _ g2 t =>
          cases t with | cons _ _ _ _ g3 t =>
          cases t with | cons _ _ _ _ g4 t =>
          cases t with | cons _ _ _ _ g5 t =>
          cases t with | nil =>
          cases g1 with | str =>
          cases g2 with | int =>
          cases g3 with | int =>
          cases g4 with | int =>
          cases g5 with | int =>
          refine (word_any f c3 _ _ _ _ _ (a.den η) (b.den η) (c.den η) (n.den η) W).mono ?_
          rintro ex W' ⟨rfl, hb⟩
          refine ⟨_, rfl, fun φ => V.val_ok _ _ ?_, hb⟩
          simp only [V.val, E.den, h.fi5, rfFi5, if_true, Int.toNat_natCast, hr, wordI, S.den, c1, c2, c4, c5, c6]
        · simp at hv
      · simp at hv
    · simp at hv
theorem sumR_ok (η : Env) (h : RefEnv η) (hw : 0 ≤ η.i 0 ∧ η.i 0 < 4294967296) : SumOk η Try.prog sumR := by
  refine SumOk.put (sumT_ok η h) ?_
  intro args v hv φ args' W ha
  unfold ofG at hv
  split at hv
  · rename_i nm f o f3 f7 w
    split at hv
    · rename_i hc
      obtain ⟨c1, c2⟩ := hc
      have c2 := E.beq_eq c2
      subst c2
      simp only [Option.some.injEq] at hv; subst hv
      cases ha with | cons _ _ _ _ h1 t =>
      cases t with | cons _ _ _ _ h2 t =>
      cases t with | nil =>
      cases h1 with | agg _ l hl =>
      cases hl with | cons _ _ _ _ g1 t =>
      cases t with | cons _ _ _ _ g2 t =>
      cases t with | cons _ _ _ _ g3 t =>
      cases t with | cons _ _ _ _ g4 t =>
      cases t with | cons _ _ _ _ g5 t =>
      cases t with | nil =>
      cases g1 with | str =>
      cases g2 with | str =>
      cases g3 with | int =>
      cases g4 with | int =>
      cases g5 with | int =>
      cases h2 with | int =>
      refine (of_any f c1 _ _ _ _ (η.i 0) hw W).mono ?_
      rintro ex W' ⟨rfl, hb⟩
      refine ⟨_, rfl, fun φ => V.val_ok _ _ ?_, hb⟩
      simp only [V.val, V.vals, E.den, h.fi, rfFi, Int.toNat_natCast, ofV]; rfl
    · simp at hv
  · simp at hv
def fE (i : Nat) (f : Nat) : E := .fn i (.lit f) (.var 0) (.lit 0)
def rdT (j : Nat) : List Rw → T V
  | [] => .ret (.tuple [.agg [.str (.lit []), .int .i64 (.lit 0), .int .i64 (.lit 0), .int .i64 (.lit 0), .int .i64 (.lit 0)], .int .i64 (.lit 70)])
  | r :: l => .node (.cmp .eql (.fn5 60 (.lit j) (fE 70 r.form) (fE 71 r.form) (fE 72 r.form) (fE 73 r.form)) (.var 0))
    (.ret (.tuple [.agg [.str (.lit r.name), .int .i64 (fE 70 r.form), .int .i64 (fE 71 r.form), .int .i64 (fE 72 r.form), .int .i64 (fE 73 r.form)], .int .i64 (.lit 0)])) (rdT (j + 1) l)
theorem rd_eq : callTop Try.prog sumR 300 10 [.int .i64 (.var 0)] ofFacts = rdT 0 rowsL := by kernel_rfl
theorem dok (f : Nat) (hf : f < 8) {w : Int} (hw : 0 ≤ w ∧ w < 4294967296) : okF f (fldI (hasD f) 7 w) (fldI (has1 f) 15 w) (fldI (has2 f) 20 w) (numI f w) = true := by
  obtain rfl | rfl | rfl | rfl | rfl | rfl | rfl | rfl : f = 0 ∨ f = 1 ∨ f = 2 ∨ f = 3 ∨ f = 4 ∨ f = 5 ∨ f = 6 ∨ f = 7 := by omega
  · exact (d2_0 (B := bitsI .and .u32 w (mask 0)) (by rw [show mask 0 = 127 from rfl, mask7 hw]; omega) hw rfl).1
  · exact (d2_1 (B := bitsI .and .u32 w (mask 1)) (by rw [show mask 1 = 127 from rfl, mask7 hw]; omega) hw rfl).1
  · exact (d2_2 (B := bitsI .and .u32 w (mask 2)) (by rw [show mask 2 = 28799 from rfl, mask28 hw]; omega) hw rfl).1
  · exact (d2_3 (B := bitsI .and .u32 w (mask 3)) (by rw [show mask 3 = 4261441663 from rfl, maskR hw]; omega) hw rfl).1
  · exact (d2_4 (B := bitsI .and .u32 w (mask 4)) (by rw [show mask 4 = 28799 from rfl, mask28 hw]; omega) hw rfl).1
  · exact (d2_5 (B := bitsI .and .u32 w (mask 5)) (by rw [show mask 5 = 28799 from rfl, mask28 hw]; omega) hw rfl).1
  · exact (d2_6 (B := bitsI .and .u32 w (mask 6)) (by rw [show mask 6 = 4261441663 from rfl, maskR hw]; omega) hw rfl).1
  · have hN : numI 7 w = 0 := by rw [numI_7, num_7 hw]
    rw [hN]; rfl
/-- A row's word comes to be the word just if it has the row's bits. -/
theorem word_row {r : Rw} (hr : r ∈ rowsL) {w : Int} (hw : 0 ≤ w ∧ w < 4294967296) :
    wordI r (fldI (hasD r.form) 7 w) (fldI (has1 r.form) 15 w) (fldI (has2 r.form) 20 w) (numI r.form w) = w ↔ bitsI .and .u32 w (mask r.form) = r.bits := by
  have hok := dok r.form (forms_ok r hr) hw
  rw [wordI_enc hr hok]
  constructor
  · intro e; exact (decR_some (d1 hr hok e).2.1).2
  · intro e; exact (d2 hr hw e).2
theorem rdT_gives {η : Env} (h : RefEnv η) (hw : 0 ≤ η.i 0 ∧ η.i 0 < 4294967296) : ∀ (l : List Rw) (j : Nat), rowsL.drop j = l → (rdT j l).gives η (decRes (l.find? fun r => bitsI .and .u32 (η.i 0) (mask r.form) == r.bits) (η.i 0))
  | [], j, _ => by simp only [rdT, T.gives, V.val, V.vals, E.den, S.den, List.find?_nil, decRes]; rfl
  | r :: l, j, hj => by
    have hat : rowsL[j]? = some r := by
      have := congrArg (fun x => x[0]?) hj
      simpa using this
    have hm : r ∈ rowsL := List.mem_of_getElem? hat
    have hdrop : rowsL.drop (j + 1) = l := by
      have : (rowsL.drop j).drop 1 = l := by rw [hj]; rfl
      rwa [List.drop_drop] at this
    have hk := word_row hm hw
    simp only [rdT, T.gives, B.prop, propI, E.den, fE, h.fi5, h.fi, rfFi5, if_true, Int.toNat_natCast, hat]
    refine ⟨fun e => ?_, fun e => ?_⟩
    · have e2 := hk.1 e
      rw [List.find?_cons_of_pos (by simpa using e2)]
      simp only [V.val, V.vals, E.den, S.den, h.fi, rfFi, Int.toNat_natCast, decRes]; rfl
    · rw [List.find?_cons_of_neg (by simpa using fun q => e (hk.2 q))]
      exact rdT_gives h hw l (j + 1) hdrop
theorem refdec_calls (w : Int) (hw : 0 ≤ w ∧ w < 4294967296) (W : World) : Calls Try.prog 10 #[.int .i64 w] W fun e W' => e = .returned (decRes (decR w) w) ∧ Below W.heap.size W W' := by
  have hE : RefEnv { i := fun _ => w, fb5 := rfFb5, fi5 := rfFi5, fi := rfFi } := ⟨rfl, rfl, rfl⟩
  refine contract (η := { i := fun _ => w, fb5 := rfFb5, fi5 := rfFi5, fi := rfFi }) in_plain in_follows (sumR_ok _ hE hw) (n := 300) (args := [.int .i64 (.var 0)]) (args' := [.int .i64 w]) (.cons _ _ _ _ (.int _ _) .nil) (facts := ofFacts) ?_ ?_ W
  · intro p hp
    simp only [ofFacts, List.mem_map, List.mem_range] at hp
    obtain ⟨f, hf, rfl⟩ := hp
    show rfFb5 50 (f : Int) (rfFi 70 f w 0) (rfFi 71 f w 0) (rfFi 72 f w 0) (rfFi 73 f w 0) = true
    exact dok f hf hw
  · rw [rd_eq]
    exact rdT_gives hE hw rowsL 0 rfl
def rdG : List V → Option V
  | [.int .i64 e] => if e.beq (.wrap .i64 (.var 0)) = true then some (.tuple [.agg [.str (.fn 1 (.var 0)), .int .i64 (.fn 3 (.var 0) (.lit 0) (.lit 0)), .int .i64 (.fn 4 (.var 0) (.lit 0) (.lit 0)), .int .i64 (.fn 5 (.var 0) (.lit 0) (.lit 0)), .int .i64 (.fn 6 (.var 0) (.lit 0) (.lit 0))], .int .i64 (.fn 7 (.var 0) (.lit 0) (.lit 0))]) else none
  | _ => none
def sumD : Summary := sumB.put 10 rdG
theorem sumD_ok (η : Env) (h : InEnv η) (hw : 0 ≤ η.i 0 ∧ η.i 0 < 4294967296) : SumOk η Try.prog sumD := by
  refine SumOk.put (sumB_ok η h) ?_
  intro args v hv φ args' W ha
  unfold rdG at hv
  split at hv
  · rename_i e
    split at hv
    · rename_i he
      have he := E.beq_eq he
      subst he
      simp only [Option.some.injEq] at hv; subst hv
      cases ha with | cons _ _ _ _ h1 t =>
      cases t with | nil =>
      cases h1 with | int =>
      have e1 : (E.wrap .i64 (.var 0)).den η = η.i 0 := by show IntKind.i64.wrap (η.i 0) = _; rw [wrap_i64]; omega
      rw [e1]
      refine (refdec_calls (η.i 0) hw W).mono ?_
      rintro ex W' ⟨rfl, hb⟩
      refine ⟨_, rfl, fun φ => V.val_ok _ _ ?_, hb⟩
      simp only [V.val, V.vals, E.den, S.den, h.fi, h.fs, inFi, inFs, decRes]
      cases decR (η.i 0) <;> rfl
    · simp at hv
  · simp at hv
end Go.Proofs.Ytloihfdiabbcpaa.Sx
