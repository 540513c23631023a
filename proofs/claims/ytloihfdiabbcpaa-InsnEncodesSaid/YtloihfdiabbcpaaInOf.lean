/- The document's instructions: the fields of a word. -/
import Derived.Test.YtloihfdiabbcpaaProg
import Derived.Test.YtloihfdiabbcpaaSxSum
import Derived.Test.YtloihfdiabbcpaaInRef
namespace Go.Proofs.Ytloihfdiabbcpaa.Sx
open Go Go.RowKit
set_option linter.unusedVariables false
set_option linter.unusedSimpArgs false
set_option maxRecDepth 100000
def ofV (f : Nat) (nm : ByteArray) (w : Int) : Value := .agg #[.string nm, .int .i64 (fldI (hasD f) 7 w), .int .i64 (fldI (has1 f) 15 w), .int .i64 (fldI (has2 f) 20 w), .int .i64 (numI f w)]
def of0T : T V := (.ret (.agg [(.str (.var 2)), (.int .i64 (.rem (.wrap .i64 (.quo (.rem (.add (.rem (.var 0) (.lit 4294967296)) (.lit 4294967296)) (.lit 4294967296)) (.lit 128))) (.lit 32))), (.int .i64 (.lit 0)), (.int .i64 (.lit 0)), (.int .i64 (.rem (.wrap .i64 (.quo (.rem (.add (.rem (.var 0) (.lit 4294967296)) (.lit 4294967296)) (.lit 4294967296)) (.lit 4096))) (.lit 1048576)))]))
theorem of0_eq : callTop Try.prog noSum 60 20 [.agg [.str (.var 2), .str (.lit [85]), .int .i64 (.var 4), .int .i64 (.var 5), .int .i64 (.var 6)], .int .i64 (.var 0)] [] = of0T := by kernel_rfl
theorem of0_calls (nm : ByteArray) (o f3 f7 w : Int) (hw : 0 ≤ w ∧ w < 4294967296) (W : World) : Calls Try.prog 20 #[.agg #[.string nm, .string ⟨([85] : List UInt8).toArray⟩, .int .i64 o, .int .i64 f3, .int .i64 f7], .int .i64 w] W fun e W' => e = .returned (ofV 0 nm w) ∧ Below W.heap.size W W' := by
  refine contract (η := envR nm w 0 0 0 o f3 f7) in_plain in_follows (noSum_ok _ _) (n := 60) (args := [.agg [.str (.var 2), .str (.lit [85]), .int .i64 (.var 4), .int .i64 (.var 5), .int .i64 (.var 6)], .int .i64 (.var 0)]) (args' := [.agg #[.string nm, .string ⟨([85] : List UInt8).toArray⟩, .int .i64 o, .int .i64 f3, .int .i64 f7], .int .i64 w])
    (.cons _ _ _ _ (.agg _ [.string nm, .string ⟨([85] : List UInt8).toArray⟩, .int .i64 o, .int .i64 f3, .int .i64 f7] (.cons _ _ _ _ (.str (.var 2)) (.cons _ _ _ _ (.str (.lit [85])) (.cons _ _ _ _ (.int _ (.var 4)) (.cons _ _ _ _ (.int _ (.var 5)) (.cons _ _ _ _ (.int _ (.var 6)) .nil)))))) (.cons _ _ _ _ (.int _ (.var 0)) .nil)) facts_none ?_ W
  rw [of0_eq]
  have hm : w % 4294967296 = w := by omega
  have e7 : fldI (hasD 0) 7 w = w / 128 % 32 := fld7 hw
  have e15 : fldI (has1 0) 15 w = 0 := rfl
  have e20 : fldI (has2 0) 20 w = 0 := rfl
  have hv := num_0 hw
  have g0 : 0 ≤ w / 4096 % 1048576 ∧ w / 4096 % 1048576 < 1048576 := by clear hv; omega
  have hN : numI 0 w = _ := (numI_0 (w := w)).trans hv
  simp only [of0T, T.gives, V.val, V.vals, B.prop, E.den, S.den, propI, r0, tmod_mod4294967296, tdq, pcR_0, pcR_1, pcR_5, pcR_7, pcR_8, pcR_11, pcR_12, pcR_15, pcR_20, pcR_21, pcR_25, pcR_31, ofV, e7, e15, e20, Option.map_some, Option.some.injEq, rsn]
  try simp only [hm]
  clear e7 e15 e20 hv
  generalize w / 4096 % 1048576 = x0 at *
  generalize numI 0 w = k at *
  try simp (disch := omega) only [w64]
  subst hN
  first | rfl | (simp; done) | (simp; omega)
def of1T : T V := (.node (.cmp .geq (.wrap .i64 (.add (.wrap .i64 (.add (.wrap .i64 (.add (.wrap .i64 (.mul (.rem (.wrap .i64 (.quo (.rem (.add (.rem (.var 0) (.lit 4294967296)) (.lit 4294967296)) (.lit 4294967296)) (.lit 2097152))) (.lit 1024)) (.lit 2))) (.wrap .i64 (.mul (.rem (.wrap .i64 (.quo (.rem (.add (.rem (.var 0) (.lit 4294967296)) (.lit 4294967296)) (.lit 4294967296)) (.lit 1048576))) (.lit 2)) (.lit 2048))))) (.wrap .i64 (.mul (.rem (.wrap .i64 (.quo (.rem (.add (.rem (.var 0) (.lit 4294967296)) (.lit 4294967296)) (.lit 4294967296)) (.lit 4096))) (.lit 256)) (.lit 4096))))) (.wrap .i64 (.mul (.rem (.wrap .i64 (.quo (.rem (.add (.rem (.var 0) (.lit 4294967296)) (.lit 4294967296)) (.lit 4294967296)) (.lit 2147483648))) (.lit 2)) (.lit 1048576))))) (.lit 1048576)) (.ret (.agg [(.str (.var 2)), (.int .i64 (.rem (.wrap .i64 (.quo (.rem (.add (.rem (.var 0) (.lit 4294967296)) (.lit 4294967296)) (.lit 4294967296)) (.lit 128))) (.lit 32))), (.int .i64 (.lit 0)), (.int .i64 (.lit 0)), (.int .i64 (.wrap .i64 (.sub (.wrap .i64 (.add (.wrap .i64 (.add (.wrap .i64 (.add (.wrap .i64 (.mul (.rem (.wrap .i64 (.quo (.rem (.add (.rem (.var 0) (.lit 4294967296)) (.lit 4294967296)) (.lit 4294967296)) (.lit 2097152))) (.lit 1024)) (.lit 2))) (.wrap .i64 (.mul (.rem (.wrap .i64 (.quo (.rem (.add (.rem (.var 0) (.lit 4294967296)) (.lit 4294967296)) (.lit 4294967296)) (.lit 1048576))) (.lit 2)) (.lit 2048))))) (.wrap .i64 (.mul (.rem (.wrap .i64 (.quo (.rem (.add (.rem (.var 0) (.lit 4294967296)) (.lit 4294967296)) (.lit 4294967296)) (.lit 4096))) (.lit 256)) (.lit 4096))))) (.wrap .i64 (.mul (.rem (.wrap .i64 (.quo (.rem (.add (.rem (.var 0) (.lit 4294967296)) (.lit 4294967296)) (.lit 4294967296)) (.lit 2147483648))) (.lit 2)) (.lit 1048576))))) (.lit 2097152))))])) (.ret (.agg [(.str (.var 2)), (.int .i64 (.rem (.wrap .i64 (.quo (.rem (.add (.rem (.var 0) (.lit 4294967296)) (.lit 4294967296)) (.lit 4294967296)) (.lit 128))) (.lit 32))), (.int .i64 (.lit 0)), (.int .i64 (.lit 0)), (.int .i64 (.wrap .i64 (.add (.wrap .i64 (.add (.wrap .i64 (.add (.wrap .i64 (.mul (.rem (.wrap .i64 (.quo (.rem (.add (.rem (.var 0) (.lit 4294967296)) (.lit 4294967296)) (.lit 4294967296)) (.lit 2097152))) (.lit 1024)) (.lit 2))) (.wrap .i64 (.mul (.rem (.wrap .i64 (.quo (.rem (.add (.rem (.var 0) (.lit 4294967296)) (.lit 4294967296)) (.lit 4294967296)) (.lit 1048576))) (.lit 2)) (.lit 2048))))) (.wrap .i64 (.mul (.rem (.wrap .i64 (.quo (.rem (.add (.rem (.var 0) (.lit 4294967296)) (.lit 4294967296)) (.lit 4294967296)) (.lit 4096))) (.lit 256)) (.lit 4096))))) (.wrap .i64 (.mul (.rem (.wrap .i64 (.quo (.rem (.add (.rem (.var 0) (.lit 4294967296)) (.lit 4294967296)) (.lit 4294967296)) (.lit 2147483648))) (.lit 2)) (.lit 1048576))))))])))
theorem of1_eq : callTop Try.prog noSum 60 20 [.agg [.str (.var 2), .str (.lit [74]), .int .i64 (.var 4), .int .i64 (.var 5), .int .i64 (.var 6)], .int .i64 (.var 0)] [] = of1T := by kernel_rfl
theorem of1_calls (nm : ByteArray) (o f3 f7 w : Int) (hw : 0 ≤ w ∧ w < 4294967296) (W : World) : Calls Try.prog 20 #[.agg #[.string nm, .string ⟨([74] : List UInt8).toArray⟩, .int .i64 o, .int .i64 f3, .int .i64 f7], .int .i64 w] W fun e W' => e = .returned (ofV 1 nm w) ∧ Below W.heap.size W W' := by
  refine contract (η := envR nm w 0 0 0 o f3 f7) in_plain in_follows (noSum_ok _ _) (n := 60) (args := [.agg [.str (.var 2), .str (.lit [74]), .int .i64 (.var 4), .int .i64 (.var 5), .int .i64 (.var 6)], .int .i64 (.var 0)]) (args' := [.agg #[.string nm, .string ⟨([74] : List UInt8).toArray⟩, .int .i64 o, .int .i64 f3, .int .i64 f7], .int .i64 w])
    (.cons _ _ _ _ (.agg _ [.string nm, .string ⟨([74] : List UInt8).toArray⟩, .int .i64 o, .int .i64 f3, .int .i64 f7] (.cons _ _ _ _ (.str (.var 2)) (.cons _ _ _ _ (.str (.lit [74])) (.cons _ _ _ _ (.int _ (.var 4)) (.cons _ _ _ _ (.int _ (.var 5)) (.cons _ _ _ _ (.int _ (.var 6)) .nil)))))) (.cons _ _ _ _ (.int _ (.var 0)) .nil)) facts_none ?_ W
  rw [of1_eq]
  have hm : w % 4294967296 = w := by omega
  have e7 : fldI (hasD 1) 7 w = w / 128 % 32 := fld7 hw
  have e15 : fldI (has1 1) 15 w = 0 := rfl
  have e20 : fldI (has2 1) 20 w = 0 := rfl
  have hv := num_1 hw
  have g0 : 0 ≤ w / 2097152 % 1024 ∧ w / 2097152 % 1024 < 1024 := by clear hv; omega
  have g1 : 0 ≤ w / 1048576 % 2 ∧ w / 1048576 % 2 < 2 := by clear hv; omega
  have g2 : 0 ≤ w / 4096 % 256 ∧ w / 4096 % 256 < 256 := by clear hv; omega
  have g3 : 0 ≤ w / 2147483648 % 2 ∧ w / 2147483648 % 2 < 2 := by clear hv; omega
  have hN := numI_1 (w := w) (by rw [hv]; clear hv; omega)
  rw [hv] at hN
  simp only [of1T, T.gives, V.val, V.vals, B.prop, E.den, S.den, propI, r0, tmod_mod4294967296, tdq, pcR_0, pcR_1, pcR_5, pcR_7, pcR_8, pcR_11, pcR_12, pcR_15, pcR_20, pcR_21, pcR_25, pcR_31, ofV, e7, e15, e20, Option.map_some, Option.some.injEq, rsn]
  try simp only [hm]
  clear e7 e15 e20 hv
  generalize w / 2097152 % 1024 = x0 at *
  generalize w / 1048576 % 2 = x1 at *
  generalize w / 4096 % 256 = x2 at *
  generalize w / 2147483648 % 2 = x3 at *
  generalize numI 1 w = k at *
  try simp (disch := omega) only [w64]
  refine ⟨fun h => ?_, fun h => ?_⟩
  · rw [if_neg (by omega)] at hN
    subst hN
    first | rfl | (simp; done) | (simp; omega)
  · rw [if_pos (by omega)] at hN
    subst hN
    first | rfl | (simp; done) | (simp; omega)
def of2T : T V := (.node (.cmp .geq (.rem (.wrap .i64 (.quo (.rem (.add (.rem (.var 0) (.lit 4294967296)) (.lit 4294967296)) (.lit 4294967296)) (.lit 1048576))) (.lit 4096)) (.lit 2048)) (.ret (.agg [(.str (.var 2)), (.int .i64 (.rem (.wrap .i64 (.quo (.rem (.add (.rem (.var 0) (.lit 4294967296)) (.lit 4294967296)) (.lit 4294967296)) (.lit 128))) (.lit 32))), (.int .i64 (.rem (.wrap .i64 (.quo (.rem (.add (.rem (.var 0) (.lit 4294967296)) (.lit 4294967296)) (.lit 4294967296)) (.lit 32768))) (.lit 32))), (.int .i64 (.lit 0)), (.int .i64 (.sub (.rem (.wrap .i64 (.quo (.rem (.add (.rem (.var 0) (.lit 4294967296)) (.lit 4294967296)) (.lit 4294967296)) (.lit 1048576))) (.lit 4096)) (.lit 4096)))])) (.ret (.agg [(.str (.var 2)), (.int .i64 (.rem (.wrap .i64 (.quo (.rem (.add (.rem (.var 0) (.lit 4294967296)) (.lit 4294967296)) (.lit 4294967296)) (.lit 128))) (.lit 32))), (.int .i64 (.rem (.wrap .i64 (.quo (.rem (.add (.rem (.var 0) (.lit 4294967296)) (.lit 4294967296)) (.lit 4294967296)) (.lit 32768))) (.lit 32))), (.int .i64 (.lit 0)), (.int .i64 (.rem (.wrap .i64 (.quo (.rem (.add (.rem (.var 0) (.lit 4294967296)) (.lit 4294967296)) (.lit 4294967296)) (.lit 1048576))) (.lit 4096)))])))
theorem of2_eq : callTop Try.prog noSum 60 20 [.agg [.str (.var 2), .str (.lit [73]), .int .i64 (.var 4), .int .i64 (.var 5), .int .i64 (.var 6)], .int .i64 (.var 0)] [] = of2T := by kernel_rfl
theorem of2_calls (nm : ByteArray) (o f3 f7 w : Int) (hw : 0 ≤ w ∧ w < 4294967296) (W : World) : Calls Try.prog 20 #[.agg #[.string nm, .string ⟨([73] : List UInt8).toArray⟩, .int .i64 o, .int .i64 f3, .int .i64 f7], .int .i64 w] W fun e W' => e = .returned (ofV 2 nm w) ∧ Below W.heap.size W W' := by
  refine contract (η := envR nm w 0 0 0 o f3 f7) in_plain in_follows (noSum_ok _ _) (n := 60) (args := [.agg [.str (.var 2), .str (.lit [73]), .int .i64 (.var 4), .int .i64 (.var 5), .int .i64 (.var 6)], .int .i64 (.var 0)]) (args' := [.agg #[.string nm, .string ⟨([73] : List UInt8).toArray⟩, .int .i64 o, .int .i64 f3, .int .i64 f7], .int .i64 w])
    (.cons _ _ _ _ (.agg _ [.string nm, .string ⟨([73] : List UInt8).toArray⟩, .int .i64 o, .int .i64 f3, .int .i64 f7] (.cons _ _ _ _ (.str (.var 2)) (.cons _ _ _ _ (.str (.lit [73])) (.cons _ _ _ _ (.int _ (.var 4)) (.cons _ _ _ _ (.int _ (.var 5)) (.cons _ _ _ _ (.int _ (.var 6)) .nil)))))) (.cons _ _ _ _ (.int _ (.var 0)) .nil)) facts_none ?_ W
  rw [of2_eq]
  have hm : w % 4294967296 = w := by omega
  have e7 : fldI (hasD 2) 7 w = w / 128 % 32 := fld7 hw
  have e15 : fldI (has1 2) 15 w = w / 32768 % 32 := fld15 hw
  have e20 : fldI (has2 2) 20 w = 0 := rfl
  have hv := num_2 hw
  have g0 : 0 ≤ w / 1048576 % 4096 ∧ w / 1048576 % 4096 < 4096 := by clear hv; omega
  have hN := numI_2 (w := w) (by rw [hv]; clear hv; omega)
  rw [hv] at hN
  simp only [of2T, T.gives, V.val, V.vals, B.prop, E.den, S.den, propI, r0, tmod_mod4294967296, tdq, pcR_0, pcR_1, pcR_5, pcR_7, pcR_8, pcR_11, pcR_12, pcR_15, pcR_20, pcR_21, pcR_25, pcR_31, ofV, e7, e15, e20, Option.map_some, Option.some.injEq, rsn]
  try simp only [hm]
  clear e7 e15 e20 hv
  generalize w / 1048576 % 4096 = x0 at *
  generalize numI 2 w = k at *
  try simp (disch := omega) only [w64]
  refine ⟨fun h => ?_, fun h => ?_⟩
  · rw [if_neg (by omega)] at hN
    subst hN
    first | rfl | (simp; done) | (simp; omega)
  · rw [if_pos (by omega)] at hN
    subst hN
    first | rfl | (simp; done) | (simp; omega)
def of3T : T V := (.ret (.agg [(.str (.var 2)), (.int .i64 (.rem (.wrap .i64 (.quo (.rem (.add (.rem (.var 0) (.lit 4294967296)) (.lit 4294967296)) (.lit 4294967296)) (.lit 128))) (.lit 32))), (.int .i64 (.rem (.wrap .i64 (.quo (.rem (.add (.rem (.var 0) (.lit 4294967296)) (.lit 4294967296)) (.lit 4294967296)) (.lit 32768))) (.lit 32))), (.int .i64 (.lit 0)), (.int .i64 (.rem (.wrap .i64 (.quo (.rem (.add (.rem (.var 0) (.lit 4294967296)) (.lit 4294967296)) (.lit 4294967296)) (.lit 1048576))) (.lit 32)))]))
theorem of3_eq : callTop Try.prog noSum 60 20 [.agg [.str (.var 2), .str (.lit [115, 104, 105, 102, 116]), .int .i64 (.var 4), .int .i64 (.var 5), .int .i64 (.var 6)], .int .i64 (.var 0)] [] = of3T := by kernel_rfl
theorem of3_calls (nm : ByteArray) (o f3 f7 w : Int) (hw : 0 ≤ w ∧ w < 4294967296) (W : World) : Calls Try.prog 20 #[.agg #[.string nm, .string ⟨([115, 104, 105, 102, 116] : List UInt8).toArray⟩, .int .i64 o, .int .i64 f3, .int .i64 f7], .int .i64 w] W fun e W' => e = .returned (ofV 3 nm w) ∧ Below W.heap.size W W' := by
  refine contract (η := envR nm w 0 0 0 o f3 f7) in_plain in_follows (noSum_ok _ _) (n := 60) (args := [.agg [.str (.var 2), .str (.lit [115, 104, 105, 102, 116]), .int .i64 (.var 4), .int .i64 (.var 5), .int .i64 (.var 6)], .int .i64 (.var 0)]) (args' := [.agg #[.string nm, .string ⟨([115, 104, 105, 102, 116] : List UInt8).toArray⟩, .int .i64 o, .int .i64 f3, .int .i64 f7], .int .i64 w])
    (.cons _ _ _ _ (.agg _ [.string nm, .string ⟨([115, 104, 105, 102, 116] : List UInt8).toArray⟩, .int .i64 o, .int .i64 f3, .int .i64 f7] (.cons _ _ _ _ (.str (.var 2)) (.cons _ _ _ _ (.str (.lit [115, 104, 105, 102, 116])) (.cons _ _ _ _ (.int _ (.var 4)) (.cons _ _ _ _ (.int _ (.var 5)) (.cons _ _ _ _ (.int _ (.var 6)) .nil)))))) (.cons _ _ _ _ (.int _ (.var 0)) .nil)) facts_none ?_ W
  rw [of3_eq]
  have hm : w % 4294967296 = w := by omega
  have e7 : fldI (hasD 3) 7 w = w / 128 % 32 := fld7 hw
  have e15 : fldI (has1 3) 15 w = w / 32768 % 32 := fld15 hw
  have e20 : fldI (has2 3) 20 w = 0 := rfl
  have hv := num_3 hw
  have g0 : 0 ≤ w / 1048576 % 32 ∧ w / 1048576 % 32 < 32 := by clear hv; omega
  have hN : numI 3 w = _ := (numI_3 (w := w)).trans hv
  simp only [of3T, T.gives, V.val, V.vals, B.prop, E.den, S.den, propI, r0, tmod_mod4294967296, tdq, pcR_0, pcR_1, pcR_5, pcR_7, pcR_8, pcR_11, pcR_12, pcR_15, pcR_20, pcR_21, pcR_25, pcR_31, ofV, e7, e15, e20, Option.map_some, Option.some.injEq, rsn]
  try simp only [hm]
  clear e7 e15 e20 hv
  generalize w / 1048576 % 32 = x0 at *
  generalize numI 3 w = k at *
  try simp (disch := omega) only [w64]
  subst hN
  first | rfl | (simp; done) | (simp; omega)
def of4T : T V := (.node (.cmp .geq (.wrap .i64 (.add (.wrap .i64 (.add (.wrap .i64 (.add (.wrap .i64 (.mul (.rem (.wrap .i64 (.quo (.rem (.add (.rem (.var 0) (.lit 4294967296)) (.lit 4294967296)) (.lit 4294967296)) (.lit 256))) (.lit 16)) (.lit 2))) (.wrap .i64 (.mul (.rem (.wrap .i64 (.quo (.rem (.add (.rem (.var 0) (.lit 4294967296)) (.lit 4294967296)) (.lit 4294967296)) (.lit 33554432))) (.lit 64)) (.lit 32))))) (.wrap .i64 (.mul (.rem (.wrap .i64 (.quo (.rem (.add (.rem (.var 0) (.lit 4294967296)) (.lit 4294967296)) (.lit 4294967296)) (.lit 128))) (.lit 2)) (.lit 2048))))) (.wrap .i64 (.mul (.rem (.wrap .i64 (.quo (.rem (.add (.rem (.var 0) (.lit 4294967296)) (.lit 4294967296)) (.lit 4294967296)) (.lit 2147483648))) (.lit 2)) (.lit 4096))))) (.lit 4096)) (.ret (.agg [(.str (.var 2)), (.int .i64 (.lit 0)), (.int .i64 (.rem (.wrap .i64 (.quo (.rem (.add (.rem (.var 0) (.lit 4294967296)) (.lit 4294967296)) (.lit 4294967296)) (.lit 32768))) (.lit 32))), (.int .i64 (.rem (.wrap .i64 (.quo (.rem (.add (.rem (.var 0) (.lit 4294967296)) (.lit 4294967296)) (.lit 4294967296)) (.lit 1048576))) (.lit 32))), (.int .i64 (.wrap .i64 (.sub (.wrap .i64 (.add (.wrap .i64 (.add (.wrap .i64 (.add (.wrap .i64 (.mul (.rem (.wrap .i64 (.quo (.rem (.add (.rem (.var 0) (.lit 4294967296)) (.lit 4294967296)) (.lit 4294967296)) (.lit 256))) (.lit 16)) (.lit 2))) (.wrap .i64 (.mul (.rem (.wrap .i64 (.quo (.rem (.add (.rem (.var 0) (.lit 4294967296)) (.lit 4294967296)) (.lit 4294967296)) (.lit 33554432))) (.lit 64)) (.lit 32))))) (.wrap .i64 (.mul (.rem (.wrap .i64 (.quo (.rem (.add (.rem (.var 0) (.lit 4294967296)) (.lit 4294967296)) (.lit 4294967296)) (.lit 128))) (.lit 2)) (.lit 2048))))) (.wrap .i64 (.mul (.rem (.wrap .i64 (.quo (.rem (.add (.rem (.var 0) (.lit 4294967296)) (.lit 4294967296)) (.lit 4294967296)) (.lit 2147483648))) (.lit 2)) (.lit 4096))))) (.lit 8192))))])) (.ret (.agg [(.str (.var 2)), (.int .i64 (.lit 0)), (.int .i64 (.rem (.wrap .i64 (.quo (.rem (.add (.rem (.var 0) (.lit 4294967296)) (.lit 4294967296)) (.lit 4294967296)) (.lit 32768))) (.lit 32))), (.int .i64 (.rem (.wrap .i64 (.quo (.rem (.add (.rem (.var 0) (.lit 4294967296)) (.lit 4294967296)) (.lit 4294967296)) (.lit 1048576))) (.lit 32))), (.int .i64 (.wrap .i64 (.add (.wrap .i64 (.add (.wrap .i64 (.add (.wrap .i64 (.mul (.rem (.wrap .i64 (.quo (.rem (.add (.rem (.var 0) (.lit 4294967296)) (.lit 4294967296)) (.lit 4294967296)) (.lit 256))) (.lit 16)) (.lit 2))) (.wrap .i64 (.mul (.rem (.wrap .i64 (.quo (.rem (.add (.rem (.var 0) (.lit 4294967296)) (.lit 4294967296)) (.lit 4294967296)) (.lit 33554432))) (.lit 64)) (.lit 32))))) (.wrap .i64 (.mul (.rem (.wrap .i64 (.quo (.rem (.add (.rem (.var 0) (.lit 4294967296)) (.lit 4294967296)) (.lit 4294967296)) (.lit 128))) (.lit 2)) (.lit 2048))))) (.wrap .i64 (.mul (.rem (.wrap .i64 (.quo (.rem (.add (.rem (.var 0) (.lit 4294967296)) (.lit 4294967296)) (.lit 4294967296)) (.lit 2147483648))) (.lit 2)) (.lit 4096))))))])))
theorem of4_eq : callTop Try.prog noSum 60 20 [.agg [.str (.var 2), .str (.lit [66]), .int .i64 (.var 4), .int .i64 (.var 5), .int .i64 (.var 6)], .int .i64 (.var 0)] [] = of4T := by kernel_rfl
theorem of4_calls (nm : ByteArray) (o f3 f7 w : Int) (hw : 0 ≤ w ∧ w < 4294967296) (W : World) : Calls Try.prog 20 #[.agg #[.string nm, .string ⟨([66] : List UInt8).toArray⟩, .int .i64 o, .int .i64 f3, .int .i64 f7], .int .i64 w] W fun e W' => e = .returned (ofV 4 nm w) ∧ Below W.heap.size W W' := by
  refine contract (η := envR nm w 0 0 0 o f3 f7) in_plain in_follows (noSum_ok _ _) (n := 60) (args := [.agg [.str (.var 2), .str (.lit [66]), .int .i64 (.var 4), .int .i64 (.var 5), .int .i64 (.var 6)], .int .i64 (.var 0)]) (args' := [.agg #[.string nm, .string ⟨([66] : List UInt8).toArray⟩, .int .i64 o, .int .i64 f3, .int .i64 f7], .int .i64 w])
    (.cons _ _ _ _ (.agg _ [.string nm, .string ⟨([66] : List UInt8).toArray⟩, .int .i64 o, .int .i64 f3, .int .i64 f7] (.cons _ _ _ _ (.str (.var 2)) (.cons _ _ _ _ (.str (.lit [66])) (.cons _ _ _ _ (.int _ (.var 4)) (.cons _ _ _ _ (.int _ (.var 5)) (.cons _ _ _ _ (.int _ (.var 6)) .nil)))))) (.cons _ _ _ _ (.int _ (.var 0)) .nil)) facts_none ?_ W
  rw [of4_eq]
  have hm : w % 4294967296 = w := by omega
  have e7 : fldI (hasD 4) 7 w = 0 := rfl
  have e15 : fldI (has1 4) 15 w = w / 32768 % 32 := fld15 hw
  have e20 : fldI (has2 4) 20 w = w / 1048576 % 32 := fld20 hw
  have hv := num_4 hw
  have g0 : 0 ≤ w / 256 % 16 ∧ w / 256 % 16 < 16 := by clear hv; omega
  have g1 : 0 ≤ w / 33554432 % 64 ∧ w / 33554432 % 64 < 64 := by clear hv; omega
  have g2 : 0 ≤ w / 128 % 2 ∧ w / 128 % 2 < 2 := by clear hv; omega
  have g3 : 0 ≤ w / 2147483648 % 2 ∧ w / 2147483648 % 2 < 2 := by clear hv; omega
  have hN := numI_4 (w := w) (by rw [hv]; clear hv; omega)
  rw [hv] at hN
  simp only [of4T, T.gives, V.val, V.vals, B.prop, E.den, S.den, propI, r0, tmod_mod4294967296, tdq, pcR_0, pcR_1, pcR_5, pcR_7, pcR_8, pcR_11, pcR_12, pcR_15, pcR_20, pcR_21, pcR_25, pcR_31, ofV, e7, e15, e20, Option.map_some, Option.some.injEq, rsn]
  try simp only [hm]
  clear e7 e15 e20 hv
  generalize w / 256 % 16 = x0 at *
  generalize w / 33554432 % 64 = x1 at *
  generalize w / 128 % 2 = x2 at *
  generalize w / 2147483648 % 2 = x3 at *
  generalize numI 4 w = k at *
  try simp (disch := omega) only [w64]
  refine ⟨fun h => ?_, fun h => ?_⟩
  · rw [if_neg (by omega)] at hN
    subst hN
    first | rfl | (simp; done) | (simp; omega)
  · rw [if_pos (by omega)] at hN
    subst hN
    first | rfl | (simp; done) | (simp; omega)
def of5T : T V := (.node (.cmp .geq (.wrap .i64 (.add (.rem (.wrap .i64 (.quo (.rem (.add (.rem (.var 0) (.lit 4294967296)) (.lit 4294967296)) (.lit 4294967296)) (.lit 128))) (.lit 32)) (.wrap .i64 (.mul (.rem (.wrap .i64 (.quo (.rem (.add (.rem (.var 0) (.lit 4294967296)) (.lit 4294967296)) (.lit 4294967296)) (.lit 33554432))) (.lit 128)) (.lit 32))))) (.lit 2048)) (.ret (.agg [(.str (.var 2)), (.int .i64 (.lit 0)), (.int .i64 (.rem (.wrap .i64 (.quo (.rem (.add (.rem (.var 0) (.lit 4294967296)) (.lit 4294967296)) (.lit 4294967296)) (.lit 32768))) (.lit 32))), (.int .i64 (.rem (.wrap .i64 (.quo (.rem (.add (.rem (.var 0) (.lit 4294967296)) (.lit 4294967296)) (.lit 4294967296)) (.lit 1048576))) (.lit 32))), (.int .i64 (.wrap .i64 (.sub (.wrap .i64 (.add (.rem (.wrap .i64 (.quo (.rem (.add (.rem (.var 0) (.lit 4294967296)) (.lit 4294967296)) (.lit 4294967296)) (.lit 128))) (.lit 32)) (.wrap .i64 (.mul (.rem (.wrap .i64 (.quo (.rem (.add (.rem (.var 0) (.lit 4294967296)) (.lit 4294967296)) (.lit 4294967296)) (.lit 33554432))) (.lit 128)) (.lit 32))))) (.lit 4096))))])) (.ret (.agg [(.str (.var 2)), (.int .i64 (.lit 0)), (.int .i64 (.rem (.wrap .i64 (.quo (.rem (.add (.rem (.var 0) (.lit 4294967296)) (.lit 4294967296)) (.lit 4294967296)) (.lit 32768))) (.lit 32))), (.int .i64 (.rem (.wrap .i64 (.quo (.rem (.add (.rem (.var 0) (.lit 4294967296)) (.lit 4294967296)) (.lit 4294967296)) (.lit 1048576))) (.lit 32))), (.int .i64 (.wrap .i64 (.add (.rem (.wrap .i64 (.quo (.rem (.add (.rem (.var 0) (.lit 4294967296)) (.lit 4294967296)) (.lit 4294967296)) (.lit 128))) (.lit 32)) (.wrap .i64 (.mul (.rem (.wrap .i64 (.quo (.rem (.add (.rem (.var 0) (.lit 4294967296)) (.lit 4294967296)) (.lit 4294967296)) (.lit 33554432))) (.lit 128)) (.lit 32))))))])))
theorem of5_eq : callTop Try.prog noSum 60 20 [.agg [.str (.var 2), .str (.lit [83]), .int .i64 (.var 4), .int .i64 (.var 5), .int .i64 (.var 6)], .int .i64 (.var 0)] [] = of5T := by kernel_rfl
theorem of5_calls (nm : ByteArray) (o f3 f7 w : Int) (hw : 0 ≤ w ∧ w < 4294967296) (W : World) : Calls Try.prog 20 #[.agg #[.string nm, .string ⟨([83] : List UInt8).toArray⟩, .int .i64 o, .int .i64 f3, .int .i64 f7], .int .i64 w] W fun e W' => e = .returned (ofV 5 nm w) ∧ Below W.heap.size W W' := by
  refine contract (η := envR nm w 0 0 0 o f3 f7) in_plain in_follows (noSum_ok _ _) (n := 60) (args := [.agg [.str (.var 2), .str (.lit [83]), .int .i64 (.var 4), .int .i64 (.var 5), .int .i64 (.var 6)], .int .i64 (.var 0)]) (args' := [.agg #[.string nm, .string ⟨([83] : List UInt8).toArray⟩, .int .i64 o, .int .i64 f3, .int .i64 f7], .int .i64 w])
    (.cons _ _ _ _ (.agg _ [.string nm, .string ⟨([83] : List UInt8).toArray⟩, .int .i64 o, .int .i64 f3, .int .i64 f7] (.cons _ _ _ _ (.str (.var 2)) (.cons _ _ _ _ (.str (.lit [83])) (.cons _ _ _ _ (.int _ (.var 4)) (.cons _ _ _ _ (.int _ (.var 5)) (.cons _ _ _ _ (.int _ (.var 6)) .nil)))))) (.cons _ _ _ _ (.int _ (.var 0)) .nil)) facts_none ?_ W
  rw [of5_eq]
  have hm : w % 4294967296 = w := by omega
  have e7 : fldI (hasD 5) 7 w = 0 := rfl
  have e15 : fldI (has1 5) 15 w = w / 32768 % 32 := fld15 hw
  have e20 : fldI (has2 5) 20 w = w / 1048576 % 32 := fld20 hw
  have hv := num_5 hw
  have g0 : 0 ≤ w / 128 % 32 ∧ w / 128 % 32 < 32 := by clear hv; omega
  have g1 : 0 ≤ w / 33554432 % 128 ∧ w / 33554432 % 128 < 128 := by clear hv; omega
  have hN := numI_5 (w := w) (by rw [hv]; clear hv; omega)
  rw [hv] at hN
  simp only [of5T, T.gives, V.val, V.vals, B.prop, E.den, S.den, propI, r0, tmod_mod4294967296, tdq, pcR_0, pcR_1, pcR_5, pcR_7, pcR_8, pcR_11, pcR_12, pcR_15, pcR_20, pcR_21, pcR_25, pcR_31, ofV, e7, e15, e20, Option.map_some, Option.some.injEq, rsn]
  try simp only [hm]
  clear e7 e15 e20 hv
  generalize w / 128 % 32 = x0 at *
  generalize w / 33554432 % 128 = x1 at *
  generalize numI 5 w = k at *
  try simp (disch := omega) only [w64]
  refine ⟨fun h => ?_, fun h => ?_⟩
  · rw [if_neg (by omega)] at hN
    subst hN
    first | rfl | (simp; done) | (simp; omega)
  · rw [if_pos (by omega)] at hN
    subst hN
    first | rfl | (simp; done) | (simp; omega)
def of6T : T V := (.ret (.agg [(.str (.var 2)), (.int .i64 (.rem (.wrap .i64 (.quo (.rem (.add (.rem (.var 0) (.lit 4294967296)) (.lit 4294967296)) (.lit 4294967296)) (.lit 128))) (.lit 32))), (.int .i64 (.rem (.wrap .i64 (.quo (.rem (.add (.rem (.var 0) (.lit 4294967296)) (.lit 4294967296)) (.lit 4294967296)) (.lit 32768))) (.lit 32))), (.int .i64 (.rem (.wrap .i64 (.quo (.rem (.add (.rem (.var 0) (.lit 4294967296)) (.lit 4294967296)) (.lit 4294967296)) (.lit 1048576))) (.lit 32))), (.int .i64 (.lit 0))]))
theorem of6_eq : callTop Try.prog noSum 60 20 [.agg [.str (.var 2), .str (.lit [82]), .int .i64 (.var 4), .int .i64 (.var 5), .int .i64 (.var 6)], .int .i64 (.var 0)] [] = of6T := by kernel_rfl
theorem of6_calls (nm : ByteArray) (o f3 f7 w : Int) (hw : 0 ≤ w ∧ w < 4294967296) (W : World) : Calls Try.prog 20 #[.agg #[.string nm, .string ⟨([82] : List UInt8).toArray⟩, .int .i64 o, .int .i64 f3, .int .i64 f7], .int .i64 w] W fun e W' => e = .returned (ofV 6 nm w) ∧ Below W.heap.size W W' := by
  refine contract (η := envR nm w 0 0 0 o f3 f7) in_plain in_follows (noSum_ok _ _) (n := 60) (args := [.agg [.str (.var 2), .str (.lit [82]), .int .i64 (.var 4), .int .i64 (.var 5), .int .i64 (.var 6)], .int .i64 (.var 0)]) (args' := [.agg #[.string nm, .string ⟨([82] : List UInt8).toArray⟩, .int .i64 o, .int .i64 f3, .int .i64 f7], .int .i64 w])
    (.cons _ _ _ _ (.agg _ [.string nm, .string ⟨([82] : List UInt8).toArray⟩, .int .i64 o, .int .i64 f3, .int .i64 f7] (.cons _ _ _ _ (.str (.var 2)) (.cons _ _ _ _ (.str (.lit [82])) (.cons _ _ _ _ (.int _ (.var 4)) (.cons _ _ _ _ (.int _ (.var 5)) (.cons _ _ _ _ (.int _ (.var 6)) .nil)))))) (.cons _ _ _ _ (.int _ (.var 0)) .nil)) facts_none ?_ W
  rw [of6_eq]
  have hm : w % 4294967296 = w := by omega
  have e7 : fldI (hasD 6) 7 w = w / 128 % 32 := fld7 hw
  have e15 : fldI (has1 6) 15 w = w / 32768 % 32 := fld15 hw
  have e20 : fldI (has2 6) 20 w = w / 1048576 % 32 := fld20 hw
  have hv := num_6 hw
  have hN : numI 6 w = _ := (numI_6 (w := w)).trans hv
  simp only [of6T, T.gives, V.val, V.vals, B.prop, E.den, S.den, propI, r0, tmod_mod4294967296, tdq, pcR_0, pcR_1, pcR_5, pcR_7, pcR_8, pcR_11, pcR_12, pcR_15, pcR_20, pcR_21, pcR_25, pcR_31, ofV, e7, e15, e20, Option.map_some, Option.some.injEq, rsn]
  try simp only [hm]
  clear e7 e15 e20 hv
  generalize numI 6 w = k at *
  subst hN
  first | rfl | (simp; done) | (simp; omega)
def of7T : T V := (.ret (.agg [(.str (.var 2)), (.int .i64 (.lit 0)), (.int .i64 (.lit 0)), (.int .i64 (.lit 0)), (.int .i64 (.lit 0))]))
theorem of7_eq : callTop Try.prog noSum 60 20 [.agg [.str (.var 2), .str (.lit [69]), .int .i64 (.var 4), .int .i64 (.var 5), .int .i64 (.var 6)], .int .i64 (.var 0)] [] = of7T := by kernel_rfl
theorem of7_calls (nm : ByteArray) (o f3 f7 w : Int) (hw : 0 ≤ w ∧ w < 4294967296) (W : World) : Calls Try.prog 20 #[.agg #[.string nm, .string ⟨([69] : List UInt8).toArray⟩, .int .i64 o, .int .i64 f3, .int .i64 f7], .int .i64 w] W fun e W' => e = .returned (ofV 7 nm w) ∧ Below W.heap.size W W' := by
  refine contract (η := envR nm w 0 0 0 o f3 f7) in_plain in_follows (noSum_ok _ _) (n := 60) (args := [.agg [.str (.var 2), .str (.lit [69]), .int .i64 (.var 4), .int .i64 (.var 5), .int .i64 (.var 6)], .int .i64 (.var 0)]) (args' := [.agg #[.string nm, .string ⟨([69] : List UInt8).toArray⟩, .int .i64 o, .int .i64 f3, .int .i64 f7], .int .i64 w])
    (.cons _ _ _ _ (.agg _ [.string nm, .string ⟨([69] : List UInt8).toArray⟩, .int .i64 o, .int .i64 f3, .int .i64 f7] (.cons _ _ _ _ (.str (.var 2)) (.cons _ _ _ _ (.str (.lit [69])) (.cons _ _ _ _ (.int _ (.var 4)) (.cons _ _ _ _ (.int _ (.var 5)) (.cons _ _ _ _ (.int _ (.var 6)) .nil)))))) (.cons _ _ _ _ (.int _ (.var 0)) .nil)) facts_none ?_ W
  rw [of7_eq]
  have hm : w % 4294967296 = w := by omega
  have e7 : fldI (hasD 7) 7 w = 0 := rfl
  have e15 : fldI (has1 7) 15 w = 0 := rfl
  have e20 : fldI (has2 7) 20 w = 0 := rfl
  have hv := num_7 hw
  have hN : numI 7 w = _ := (numI_7 (w := w)).trans hv
  simp only [of7T, T.gives, V.val, V.vals, B.prop, E.den, S.den, propI, r0, tmod_mod4294967296, tdq, pcR_0, pcR_1, pcR_5, pcR_7, pcR_8, pcR_11, pcR_12, pcR_15, pcR_20, pcR_21, pcR_25, pcR_31, ofV, e7, e15, e20, Option.map_some, Option.some.injEq, rsn]
  try simp only [hm]
  clear e7 e15 e20 hv
  generalize numI 7 w = k at *
  subst hN
  first | rfl | (simp; done) | (simp; omega)
end Go.Proofs.Ytloihfdiabbcpaa.Sx
