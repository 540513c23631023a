/- The plain law of places that overlap: the code's steps and the document's part in the same cases. -/
import Derived.Test.YtbobnbndbgpanaaChF
namespace Go.Proofs.Ytbobnbndbgpanaa.W
open Go Go.RowKit Go.Proofs
set_option linter.unusedVariables false
/-- The code's step of a tree, and the document's. -/
def stC (x : Nd) : Int × Int := if x.kind = 12 then (12, x.num) else if x.kind = 13 then (if 1 < x.kids ∧ x.k1 = 1 then (13, x.n1) else (0, 0)) else (7, 0)
def stR (x : Nd) : Int × Int := if x.kind = 12 then (1, x.num) else if x.kind = 13 then (if 1 < x.kids ∧ x.k1 = 1 then (2, x.n1) else (3, 0)) else (4, 0)
/-- A tree within a place. -/
def Goes (x : Nd) : Bool := (x.kind == 7 || x.kind == 12 || x.kind == 13) && decide (0 < x.kids)
/-- A place's root, and its trees from there on. -/
def rootOf : List Nd → Option (Int × List Nd)
  | [] => none
  | x :: rest => if x.kind = 4 then some (x.num, []) else if Goes x then (rootOf rest).map fun r => (r.1, r.2 ++ [x]) else none
theorem part_iff (a b : Nd) : (stC a ≠ stC b ∧ (stC a).1 = (stC b).1) ↔ ((stR a).1 = (stR b).1 ∧ (stR a).1 ≤ 2 ∧ (stR a).2 ≠ (stR b).2) := by
  unfold stC stR
  repeat' split
  all_goals simp
/-- Do two places overlap? -/
def meets : List Nd → List Nd → Bool
  | a :: l, b :: m => !(decide (stC a ≠ stC b) && decide ((stC a).1 = (stC b).1)) && meets l m
  | _, _ => true
def overlaps (l m : List Nd) : Bool := match rootOf l, rootOf m with
  | some (r, x), some (s, y) => decide (r = s) && meets x y
  | _, _ => false
end Go.Proofs.Ytbobnbndbgpanaa.W
