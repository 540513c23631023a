/- Temporaries as a tree: quick to read and to write in the kernel. -/
import Derived.Test.YtloihfdiabbcpaaSxVal
namespace Go.Proofs.Ytloihfdiabbcpaa.Sx
open Go

inductive Tr where
  | leaf
  | node (v : V) (l r : Tr)
def Tr.get : Tr → Nat → V
  | .leaf, _ => .tuple []
  | .node v l r, n => match n with
    | 0 => v
    | k + 1 => if k % 2 = 0 then l.get (k / 2) else r.get (k / 2)
def Tr.set : Nat → Tr → Nat → V → Tr
  | 0, t, _, _ => t
  | f + 1, t, n, v => match n, t with
    | 0, .leaf => .node v .leaf .leaf
    | 0, .node _ l r => .node v l r
    | k + 1, .leaf => if k % 2 = 0 then .node (.tuple []) (Tr.set f .leaf (k / 2) v) .leaf else .node (.tuple []) .leaf (Tr.set f .leaf (k / 2) v)
    | k + 1, .node w l r => if k % 2 = 0 then .node w (Tr.set f l (k / 2) v) r else .node w l (Tr.set f r (k / 2) v)
theorem Tr.get_set : ∀ (f : Nat) (t : Tr) (n : Nat) (v : V) (m : Nat), n < f → (Tr.set f t n v).get m = if m = n then v else t.get m
  | 0, t, n, v, m, h => by omega
  | f + 1, t, n, v, m, h => by
    cases n with
    | zero =>
      cases t <;> cases m <;> simp [Tr.set, Tr.get]
    | succ k =>
      have ih := fun t m => Tr.get_set f t (k / 2) v m (by omega)
      cases t with
      | leaf =>
        unfold Tr.set
        by_cases hk : k % 2 = 0
        · simp only [hk, if_true]
          cases m with
          | zero => simp [Tr.get]
          | succ j =>
            simp only [Tr.get, ih]
            by_cases hj : j % 2 = 0
            · simp only [hj, if_true]
              by_cases e : j = k
              · subst e; simp
              · rw [if_neg (by omega), if_neg (by omega)]
            · rw [if_neg hj, if_neg (by omega)]
        · simp only [hk, if_false]
          cases m with
          | zero => simp [Tr.get]
          | succ j =>
            simp only [Tr.get, ih]
            by_cases hj : j % 2 = 0
            · rw [if_pos hj, if_neg (by omega)]
            · simp only [hj, if_false]
              by_cases e : j = k
              · subst e; simp
              · rw [if_neg (by omega), if_neg (by omega)]
      | node w l r =>
        unfold Tr.set
        by_cases hk : k % 2 = 0
        · simp only [hk, if_true]
          cases m with
          | zero => simp [Tr.get]
          | succ j =>
            simp only [Tr.get, ih]
            by_cases hj : j % 2 = 0
            · simp only [hj, if_true]
              by_cases e : j = k
              · subst e; simp
              · rw [if_neg (by omega), if_neg (by omega)]
            · rw [if_neg hj, if_neg (by omega), if_neg hj]
        · simp only [hk, if_false]
          cases m with
          | zero => simp [Tr.get]
          | succ j =>
            simp only [Tr.get, ih]
            by_cases hj : j % 2 = 0
            · rw [if_pos hj, if_neg (by omega), if_pos hj]
            · simp only [hj, if_false]
              by_cases e : j = k
              · subst e; simp
              · rw [if_neg (by omega), if_neg (by omega)]
/-- A function's temporaries. -/
structure Regs where
  size : Nat
  tree : Tr
def Regs.get (a : Regs) (n : Nat) : V := a.tree.get n
def Regs.set (a : Regs) (n : Nat) (v : V) : Regs := if n < a.size then ⟨a.size, a.tree.set a.size n v⟩ else a
theorem Regs.get_set (a : Regs) (n : Nat) (v : V) (m : Nat) : (a.set n v).get m = if n < a.size ∧ m = n then v else a.get m := by
  unfold Regs.set Regs.get
  split
  · rename_i h; rw [Tr.get_set _ _ _ _ _ h]; simp [h]
  · rename_i h; rw [if_neg (fun e => h e.1)]
theorem Regs.size_set (a : Regs) (n : Nat) (v : V) : (a.set n v).size = a.size := by
  unfold Regs.set; split <;> rfl
def Regs.fill (size : Nat) : Nat → List V → Tr → Tr
  | _, [], t => t
  | i, v :: l, t => Regs.fill size (i + 1) l (t.set size i v)
end Go.Proofs.Ytloihfdiabbcpaa.Sx
