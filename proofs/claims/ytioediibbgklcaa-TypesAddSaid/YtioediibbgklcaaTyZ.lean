/- TypesAdd's plain law: fields of a struct whose words are known. -/
import Derived.Test.YtioediibbgklcaaTyFd
namespace Go.Proofs.Ytioediibbgklcaa.W
open Go Go.RowKit Go.Proofs
set_option linter.unusedVariables false
set_option linter.unusedSimpArgs false
theorem wordsV_eq (o : Option Nat) : wordsV o = .tuple #[.int .i64 ((o.getD 0 : Nat) : Int), .bool o.isSome] := by cases o <;> rfl
/-- The words of some fields together. -/
def sumP (its : List It) (ps : List (ByteArray × Ty)) : Nat := ((ps.map Prod.snd).map fun t => (wordsS its t).getD 0).sum
theorem sumP_snoc (its : List It) (ps : List (ByteArray × Ty)) (j : Nat) (p : ByteArray × Ty) (w : Nat) (h : ps[j]? = some p) (hw : wordsS its p.2 = some w) : sumP its (ps.take (j + 1)) = sumP its (ps.take j) + w := by
  unfold sumP
  rw [List.take_add_one, h]
  simp [hw]
theorem field_found {its : List It} {s : ByteArray} : ∀ (ps : List (ByteArray × Ty)) (i a j : Nat) (p : ByteArray × Ty), (∀ q ∈ ps, ∃ w, wordsS its q.2 = some w) → ps[j]? = some p → p.1 = s →
    ∃ k f b, fieldP its s ps i a = some (k, f, b) ∧ k ≤ i + j ∧ (k = i + j → f = p.2 ∧ b = a + sumP its (ps.take j))
  | [], i, a, j, p, _, h, _ => by simp at h
  | q :: ps, i, a, 0, p, hq, h, hs => by
    simp at h; subst h
    obtain ⟨w, hw⟩ := hq q (by simp)
    refine ⟨i, q.2, a, ?_, by omega, fun _ => ⟨rfl, by simp [sumP]⟩⟩
    rw [fieldP, hw]
    simp only
    rw [if_pos (by rw [hs]; simp)]
  | q :: ps, i, a, j + 1, p, hq, h, hs => by
    obtain ⟨w, hw⟩ := hq q (by simp)
    rw [fieldP, hw]
    simp only
    by_cases hqs : (q.1.toList == s.toList) = true
    · rw [if_pos hqs]
      exact ⟨i, q.2, a, rfl, by omega, fun h => by omega⟩
    · rw [if_neg hqs]
      obtain ⟨k, f, b, h1, h2, h3⟩ := field_found ps (i + 1) (a + w) j p (fun x hx => hq x (by simp [hx])) (by simpa using h) hs
      refine ⟨k, f, b, h1, by omega, fun hk => ?_⟩
      obtain ⟨h4, h5⟩ := h3 (by omega)
      refine ⟨h4, ?_⟩
      rw [h5]
      simp [sumP, hw]
      omega
theorem sameL_refl : ∀ (l : List Ty), (∀ t ∈ l, same t t = true) → sameL l l = true
  | [], _ => by rw [sameL]
  | a :: l, h => by rw [sameL, h a (by simp), sameL_refl l (fun t ht => h t (by simp [ht]))]; rfl
theorem same_refl : ∀ (n : Nat) (t : Ty), SizeOf.sizeOf t ≤ n → same t t = true
  | 0, t, h => by cases t; simp only [Ty.mk.sizeOf_spec] at h; omega
  | n + 1, t, h => by
    rw [same_eq, sameL_refl t.el (fun u hu => ?_)]
    · simp
    · obtain ⟨i, hi⟩ := List.getElem?_of_mem hu
      have := el_size t i u hi
      exact same_refl n u (by omega)
theorem item_known {its : List It} {t : Ty} {a : Nat} (h : wordsS its t = some a) (h9 : t.kind = 9) : ∃ k it, its.findIdx? (named? t.name) = some k ∧ its[k]? = some it ∧ itemOf its t = some it := by
  have hio : itemOf its t ≠ none := by
    intro hn
    unfold wordsS measureS at h
    have : addS its 513 512 t = none := by
      simp only [addS]
      rw [if_neg (by omega), if_neg (by omega), if_pos h9, hn]
    rw [this] at h
    simp at h
  rw [itemOf_eq, if_pos h9] at hio ⊢
  rcases find_idx (p := named? t.name) its with ⟨h1, h2⟩ | ⟨k, it, h1, h2, h3⟩
  · exact absurd h2 hio
  · exact ⟨k, it, h1, h2, h3⟩
theorem struct_all {its : List It} {t : Ty} {a : Nat} {it : It} (h : wordsS its t = some a) (h9 : t.kind = 9) (hi : itemOf its t = some it) (hk : it.kind = 2) :
    (∀ p ∈ it.ps, ∃ w, wordsS its p.2 = some w) ∧ a = sumP its it.ps ∧ copyS its t = (it.ps.map Prod.snd).all (copyS its) ∧ a ≤ 128 := struct_words h h9 hi hk
theorem sumP_le (its : List It) (ps : List (ByteArray × Ty)) (j : Nat) : sumP its (ps.take j) ≤ sumP its ps := by
  have h : sumP its ps = sumP its (ps.take j) + sumP its (ps.drop j) := by
    unfold sumP
    rw [← List.sum_append, ← List.map_append, ← List.map_append, List.take_append_drop]
  omega
theorem copies_snoc (its : List It) (ps : List (ByteArray × Ty)) (j : Nat) (p : ByteArray × Ty) (h : ps[j]? = some p) : ((ps.take (j + 1)).map Prod.snd).all (copyS its) = (((ps.take j).map Prod.snd).all (copyS its) && copyS its p.2) := by
  rw [List.take_add_one, h]
  simp
end Go.Proofs.Ytioediibbgklcaa.W
