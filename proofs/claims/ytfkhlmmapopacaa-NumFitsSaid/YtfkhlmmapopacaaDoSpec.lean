/- What a sign makes of two numbers. -/
import Derived.Test.YtfkhlmmapopacaaProg
import Derived.Test.YtfkhlmmapopacaaSxSum
import Derived.Test.YtfkhlmmapopacaaCNum3
namespace Go.Proofs.Ytfkhlmmapopacaa.Sx
open Go Go.RowKit
set_option linter.unusedVariables false
set_option linter.unusedSimpArgs false
set_option maxRecDepth 100000

def ok (k v : Int) : Prop := kI k = true ∧ kW k v = v
instance (k v : Int) : Decidable (ok k v) := inferInstanceAs (Decidable (_ ∧ _))
def fitV (k v : Int) : Int := if ok k v then v else 0
def fitF (k v : Int) : Int := if ok k v then 0 else 1
/-- The value. -/
def sgV (c : Nat) (k a b : Int) : Int :=
  if ok k a then
    match c with
    | 8 => if b < 0 then 0 else if b ≥ kB k then 0 else kW k (IntKind.i64.wrap (a * 2 ^ shN .i64 b))
    | 9 => if b < 0 then 0 else if b ≥ kB k then 0 else a.fdiv (2 ^ shN .i64 b)
    | 0 => if ok k b then fitV k (IntKind.i64.wrap (a + b)) else 0
    | 1 => if ok k b then fitV k (IntKind.i64.wrap (a - b)) else 0
    | 2 => if ok k b then fitV k (IntKind.i64.wrap (a * b)) else 0
    | 3 => if ok k b then (if b = 0 then 0 else fitV k (IntKind.i64.wrap (a.tdiv b))) else 0
    | 4 => if ok k b then (if b = 0 then 0 else if ok k (IntKind.i64.wrap (a.tdiv b)) then a.tmod b else 0) else 0
    | 5 => if ok k b then bitsI .and .i64 a b else 0
    | 6 => if ok k b then bitsI .or .i64 a b else 0
    | 7 => if ok k b then bitsI .xor .i64 a b else 0
    | _ => 0
  else 0
/-- The fault. -/
def sgF (c : Nat) (k a b : Int) : Int :=
  if ok k a then
    match c with
    | 8 => if b < 0 then 1 else if b ≥ kB k then 1 else 0
    | 9 => if b < 0 then 1 else if b ≥ kB k then 1 else 0
    | 0 => if ok k b then fitF k (IntKind.i64.wrap (a + b)) else 3
    | 1 => if ok k b then fitF k (IntKind.i64.wrap (a - b)) else 3
    | 2 => if ok k b then fitF k (IntKind.i64.wrap (a * b)) else 3
    | 3 => if ok k b then (if b = 0 then 2 else fitF k (IntKind.i64.wrap (a.tdiv b))) else 3
    | 4 => if ok k b then (if b = 0 then 2 else if ok k (IntKind.i64.wrap (a.tdiv b)) then 0 else 1) else 3
    | 5 => if ok k b then 0 else 3
    | 6 => if ok k b then 0 else 3
    | 7 => if ok k b then 0 else 3
    | _ => 3
  else 3
/-- A sign's number: 10 for what is none. -/
def sgC (s : ByteArray) : Nat := if s.toList = [43] then 0 else if s.toList = [45] then 1 else if s.toList = [42] then 2 else if s.toList = [47] then 3 else if s.toList = [37] then 4 else if s.toList = [38] then 5 else if s.toList = [124] then 6 else if s.toList = [94] then 7 else if s.toList = [60, 60] then 8 else if s.toList = [62, 62] then 9 else 10
def otherSigns : List (B × Bool) := [(.seq (.var 0) (.lit [43]), false), (.seq (.lit [43]) (.var 0), false), (.seq (.var 0) (.lit [45]), false), (.seq (.lit [45]) (.var 0), false), (.seq (.var 0) (.lit [42]), false), (.seq (.lit [42]) (.var 0), false), (.seq (.var 0) (.lit [47]), false), (.seq (.lit [47]) (.var 0), false), (.seq (.var 0) (.lit [37]), false), (.seq (.lit [37]) (.var 0), false), (.seq (.var 0) (.lit [38]), false), (.seq (.lit [38]) (.var 0), false), (.seq (.var 0) (.lit [124]), false), (.seq (.lit [124]) (.var 0), false), (.seq (.var 0) (.lit [94]), false), (.seq (.lit [94]) (.var 0), false), (.seq (.var 0) (.lit [60, 60]), false), (.seq (.lit [60, 60]) (.var 0), false), (.seq (.var 0) (.lit [62, 62]), false), (.seq (.lit [62, 62]) (.var 0), false)]
theorem seq_false {η : Env} {l : List UInt8} {i : Nat} {s : ByteArray} (hη : η.s i = s) (h : ¬ s.toList = l) : (B.seq (.var i) (.lit l)).den η = false := by
  have q : (⟨l.toArray⟩ : ByteArray).toList = l := by simp
  simp only [B.den, S.den]
  rw [hη, q]
  exact beq_eq_false_iff_ne.2 h
theorem seq_false2 {η : Env} {l : List UInt8} {i : Nat} {s : ByteArray} (hη : η.s i = s) (h : ¬ s.toList = l) : (B.seq (.lit l) (.var i)).den η = false := by
  have q : (⟨l.toArray⟩ : ByteArray).toList = l := by simp
  simp only [B.den, S.den]
  rw [hη, q]
  exact beq_eq_false_iff_ne.2 (fun e => h e.symm)
theorem sgC_cases (s : ByteArray) : s = ⟨([43] : List UInt8).toArray⟩ ∨ s = ⟨([45] : List UInt8).toArray⟩ ∨ s = ⟨([42] : List UInt8).toArray⟩ ∨ s = ⟨([47] : List UInt8).toArray⟩ ∨ s = ⟨([37] : List UInt8).toArray⟩ ∨ s = ⟨([38] : List UInt8).toArray⟩ ∨ s = ⟨([124] : List UInt8).toArray⟩ ∨ s = ⟨([94] : List UInt8).toArray⟩ ∨ s = ⟨([60, 60] : List UInt8).toArray⟩ ∨ s = ⟨([62, 62] : List UInt8).toArray⟩ ∨ (sgC s = 10 ∧ ∀ p ∈ otherSigns, ∀ η : Env, η.s 0 = s → p.1.den η = p.2) := by
  have q : ∀ l : List UInt8, (⟨l.toArray⟩ : ByteArray).toList = l := fun l => by simp
  have r : ∀ l : List UInt8, s.toList = l → s = ⟨l.toArray⟩ := fun l h => by
    subst h; obtain ⟨d⟩ := s
    have h2 := q d.toList
    rw [Array.toArray_toList] at h2
    rw [h2, Array.toArray_toList]
  unfold sgC
  by_cases h0 : s.toList = [43]
  · exact .inl (r _ h0)
  by_cases h1 : s.toList = [45]
  · exact .inr (.inl (r _ h1))
  by_cases h2 : s.toList = [42]
  · exact .inr (.inr (.inl (r _ h2)))
  by_cases h3 : s.toList = [47]
  · exact .inr (.inr (.inr (.inl (r _ h3))))
  by_cases h4 : s.toList = [37]
  · exact .inr (.inr (.inr (.inr (.inl (r _ h4)))))
  by_cases h5 : s.toList = [38]
  · exact .inr (.inr (.inr (.inr (.inr (.inl (r _ h5))))))
  by_cases h6 : s.toList = [124]
  · exact .inr (.inr (.inr (.inr (.inr (.inr (.inl (r _ h6)))))))
  by_cases h7 : s.toList = [94]
  · exact .inr (.inr (.inr (.inr (.inr (.inr (.inr (.inl (r _ h7))))))))
  by_cases h8 : s.toList = [60, 60]
  · exact .inr (.inr (.inr (.inr (.inr (.inr (.inr (.inr (.inl (r _ h8)))))))))
  by_cases h9 : s.toList = [62, 62]
  · exact .inr (.inr (.inr (.inr (.inr (.inr (.inr (.inr (.inr (.inl (r _ h9))))))))))
  simp only [h0, h1, h2, h3, h4, h5, h6, h7, h8, h9, if_false]
  refine .inr (.inr (.inr (.inr (.inr (.inr (.inr (.inr (.inr (.inr (⟨trivial, ?_⟩))))))))))
  intro p hp η hη
  simp only [otherSigns, List.mem_cons, List.not_mem_nil, or_false] at hp
  rcases hp with rfl | rfl | rfl | rfl | rfl | rfl | rfl | rfl | rfl | rfl | rfl | rfl | rfl | rfl | rfl | rfl | rfl | rfl | rfl | rfl <;> first | exact seq_false hη (by assumption) | exact seq_false2 hη (by assumption)
end Go.Proofs.Ytfkhlmmapopacaa.Sx
