/- Instructions: the laws' own lemmas. -/
import Derived.Test.YtloihfdiabbcpaaProg
import Derived.Test.YtloihfdiabbcpaaSxSum
import Derived.Test.YtloihfdiabbcpaaInLaw
namespace Go.Proofs.Ytloihfdiabbcpaa.Sx
open Go Go.RowKit
set_option linter.unusedVariables false
set_option linter.unusedSimpArgs false
set_option maxRecDepth 100000
def env2 (i : Nat → Int) (s : Nat → ByteArray) : Env :=
  { i := fun m => if m < 100 then i m else rowOf rowsL (s (m - 100)).toList, s := s, fb := inFb, fb5 := inFb5, fi := inFi, fi5 := inFi5, fs := inFs }
theorem env2_ok (i : Nat → Int) (s : Nat → ByteArray) : InEnv (env2 i s) := ⟨rfl, rfl, rfl, rfl, rfl, fun j => by
  show (if 100 + j < 100 then i (100 + j) else (rowOf rowsL (s (100 + j - 100)).toList : Int)) = _
  rw [if_neg (by omega), show 100 + j - 100 = j by omega]; rfl⟩
theorem row_name : ∀ {l : List Rw} {s : List UInt8} {r : Rw}, l[rowOf l s]? = some r → r.name = s
  | [], s, r, h => by simp at h
  | q :: l, s, r, h => by
    unfold rowOf at h
    split at h
    · rename_i e; simp at h; subst h; exact e.symm
    · exact row_name (l := l) (by simpa using h)
theorem enc_ok {k : Nat} {a b c n : Int} (h : encB rowsL k a b c n = true) : ∃ r, rowsL[k]? = some r ∧ r ∈ rowsL ∧ okF r.form a b c n = true ∧ encI rowsL k a b c n = encW r.form r.bits a b c n := by
  unfold encB at h
  split at h
  · rename_i r hr
    exact ⟨r, hr, List.mem_of_getElem? hr, h, by unfold encI; rw [hr]; simp [h]⟩
  · simp at h
theorem eB (a b c d e : Int) : inFb5 1 a b c d e = encB rowsL a.toNat b c d e := rfl
theorem eI (a b c d e : Int) : inFi5 1 a b c d e = encI rowsL a.toNat b c d e := rfl
theorem f3 {r : Rw} {w : Int} (h : decR w = some r) (y z : Int) : inFi 3 w y z = fldI (hasD r.form) 7 w := by unfold inFi; rw [if_neg (by decide), h]; rfl
theorem f4 {r : Rw} {w : Int} (h : decR w = some r) (y z : Int) : inFi 4 w y z = fldI (has1 r.form) 15 w := by unfold inFi; rw [if_neg (by decide), h]; rfl
theorem f5 {r : Rw} {w : Int} (h : decR w = some r) (y z : Int) : inFi 5 w y z = fldI (has2 r.form) 20 w := by unfold inFi; rw [if_neg (by decide), h]; rfl
theorem f6 {r : Rw} {w : Int} (h : decR w = some r) (y z : Int) : inFi 6 w y z = numI r.form w := by unfold inFi; rw [if_neg (by decide), h]; rfl
theorem f7 {r : Rw} {w : Int} (h : decR w = some r) (y z : Int) : inFi 7 w y z = 0 := by unfold inFi; rw [if_neg (by decide), h]; rfl
theorem f8 {r : Rw} {w : Int} (h : decR w = some r) (y z : Int) : inFi 8 w y z = rowOf rowsL r.name := by unfold inFi; rw [if_neg (by decide), h]; rfl
theorem fs1 {r : Rw} {w : Int} (h : decR w = some r) (i : Nat) : (inFs i w).toList = r.name := by unfold inFs; rw [h]; simp
theorem n3 {w : Int} (h : decR w = none) (i : Nat) (hi : i = 3 ∨ i = 4 ∨ i = 5 ∨ i = 6) (y z : Int) : inFi i w y z = 0 := by
  unfold inFi; rw [if_neg (by omega), h]; simp only; rw [if_neg (by omega), if_neg (by omega)]
theorem n7 {w : Int} (h : decR w = none) (y z : Int) : inFi 7 w y z = 70 := by unfold inFi; rw [if_neg (by decide), h]; rfl
theorem ns {w : Int} (h : decR w = none) (i : Nat) : (inFs i w).toList = [] := by unfold inFs; rw [h]; simp
theorem lit_list (l : List UInt8) : (⟨l.toArray⟩ : ByteArray).toList = l := by simp
end Go.Proofs.Ytloihfdiabbcpaa.Sx
