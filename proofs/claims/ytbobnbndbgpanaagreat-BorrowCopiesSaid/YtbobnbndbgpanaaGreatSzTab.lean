/- Tables: rows of twenty in rows of twenty; read by projections, written by a recursor. -/
import Derived.Test.YtbobnbndbgpanaaGreatSzBase
namespace Go.Proofs.YtbobnbndbgpanaaGreat.Sx
open Go
set_option linter.unusedVariables false
set_option linter.unusedSimpArgs false

structure R16 (α : Type) where
  (a0 a1 a2 a3 a4 a5 a6 a7 a8 a9 a10 a11 a12 a13 a14 a15 a16 a17 a18 a19 : α)

noncomputable section
/-- How one place of a row is read and written. -/
inductive Sel (α : Type) where
  | mk (g : R16 α → α) (s : α → R16 α → R16 α)
section
variable {α : Type}
def R16.s0 (v : α) (r : R16 α) : R16 α := R16.rec (motive := fun _ => α → R16 α) (fun _ a1 a2 a3 a4 a5 a6 a7 a8 a9 a10 a11 a12 a13 a14 a15 a16 a17 a18 a19 v => .mk v a1 a2 a3 a4 a5 a6 a7 a8 a9 a10 a11 a12 a13 a14 a15 a16 a17 a18 a19) r v
def R16.s1 (v : α) (r : R16 α) : R16 α := R16.rec (motive := fun _ => α → R16 α) (fun a0 _ a2 a3 a4 a5 a6 a7 a8 a9 a10 a11 a12 a13 a14 a15 a16 a17 a18 a19 v => .mk a0 v a2 a3 a4 a5 a6 a7 a8 a9 a10 a11 a12 a13 a14 a15 a16 a17 a18 a19) r v
def R16.s2 (v : α) (r : R16 α) : R16 α := R16.rec (motive := fun _ => α → R16 α) (fun a0 a1 _ a3 a4 a5 a6 a7 a8 a9 a10 a11 a12 a13 a14 a15 a16 a17 a18 a19 v => .mk a0 a1 v a3 a4 a5 a6 a7 a8 a9 a10 a11 a12 a13 a14 a15 a16 a17 a18 a19) r v
def R16.s3 (v : α) (r : R16 α) : R16 α := R16.rec (motive := fun _ => α → R16 α) (fun a0 a1 a2 _ a4 a5 a6 a7 a8 a9 a10 a11 a12 a13 a14 a15 a16 a17 a18 a19 v => .mk a0 a1 a2 v a4 a5 a6 a7 a8 a9 a10 a11 a12 a13 a14 a15 a16 a17 a18 a19) r v
def R16.s4 (v : α) (r : R16 α) : R16 α := R16.rec (motive := fun _ => α → R16 α) (fun a0 a1 a2 a3 _ a5 a6 a7 a8 a9 a10 a11 a12 a13 a14 a15 a16 a17 a18 a19 v => .mk a0 a1 a2 a3 v a5 a6 a7 a8 a9 a10 a11 a12 a13 a14 a15 a16 a17 a18 a19) r v
def R16.s5 (v : α) (r : R16 α) : R16 α := R16.rec (motive := fun _ => α → R16 α) (fun a0 a1 a2 a3 a4 _ a6 a7 a8 a9 a10 a11 a12 a13 a14 a15 a16 a17 a18 a19 v => .mk a0 a1 a2 a3 a4 v a6 a7 a8 a9 a10 a11 a12 a13 a14 a15 a16 a17 a18 a19) r v
def R16.s6 (v : α) (r : R16 α) : R16 α := R16.rec (motive := fun _ => α → R16 α) (fun a0 a1 a2 a3 a4 a5 _ a7 a8 a9 a10 a11 a12 a13 a14 a15 a16 a17 a18 a19 v => .mk a0 a1 a2 a3 a4 a5 v a7 a8 a9 a10 a11 a12 a13 a14 a15 a16 a17 a18 a19) r v
def R16.s7 (v : α) (r : R16 α) : R16 α := R16.rec (motive := fun _ => α → R16 α) (fun a0 a1 a2 a3 a4 a5 a6 _ a8 a9 a10 a11 a12 a13 a14 a15 a16 a17 a18 a19 v => .mk a0 a1 a2 a3 a4 a5 a6 v a8 a9 a10 a11 a12 a13 a14 a15 a16 a17 a18 a19) r v
def R16.s8 (v : α) (r : R16 α) : R16 α := R16.rec (motive := fun _ => α → R16 α) (fun a0 a1 a2 a3 a4 a5 a6 a7 _ a9 a10 a11 a12 a13 a14 a15 a16 a17 a18 a19 v => .mk a0 a1 a2 a3 a4 a5 a6 a7 v a9 a10 a11 a12 a13 a14 a15 a16 a17 a18 a19) r v
def R16.s9 (v : α) (r : R16 α) : R16 α := R16.rec (motive := fun _ => α → R16 α) (fun a0 a1 a2 a3 a4 a5 a6 a7 a8 _ a10 a11 a12 a13 a14 a15 a16 a17 a18 a19 v => .mk a0 a1 a2 a3 a4 a5 a6 a7 a8 v a10 a11 a12 a13 a14 a15 a16 a17 a18 a19) r v
def R16.s10 (v : α) (r : R16 α) : R16 α := R16.rec (motive := fun _ => α → R16 α) (fun a0 a1 a2 a3 a4 a5 a6 a7 a8 a9 _ a11 a12 a13 a14 a15 a16 a17 a18 a19 v => .mk a0 a1 a2 a3 a4 a5 a6 a7 a8 a9 v a11 a12 a13 a14 a15 a16 a17 a18 a19) r v
def R16.s11 (v : α) (r : R16 α) : R16 α := R16.rec (motive := fun _ => α → R16 α) (fun a0 a1 a2 a3 a4 a5 a6 a7 a8 a9 a10 _ a12 a13 a14 a15 a16 a17 a18 a19 v => .mk a0 a1 a2 a3 a4 a5 a6 a7 a8 a9 a10 v a12 a13 a14 a15 a16 a17 a18 a19) r v
def R16.s12 (v : α) (r : R16 α) : R16 α := R16.rec (motive := fun _ => α → R16 α) (fun a0 a1 a2 a3 a4 a5 a6 a7 a8 a9 a10 a11 _ a13 a14 a15 a16 a17 a18 a19 v => .mk a0 a1 a2 a3 a4 a5 a6 a7 a8 a9 a10 a11 v a13 a14 a15 a16 a17 a18 a19) r v
def R16.s13 (v : α) (r : R16 α) : R16 α := R16.rec (motive := fun _ => α → R16 α) (fun a0 a1 a2 a3 a4 a5 a6 a7 a8 a9 a10 a11 a12 _ a14 a15 a16 a17 a18 a19 v => .mk a0 a1 a2 a3 a4 a5 a6 a7 a8 a9 a10 a11 a12 v a14 a15 a16 a17 a18 a19) r v
def R16.s14 (v : α) (r : R16 α) : R16 α := R16.rec (motive := fun _ => α → R16 α) (fun a0 a1 a2 a3 a4 a5 a6 a7 a8 a9 a10 a11 a12 a13 _ a15 a16 a17 a18 a19 v => .mk a0 a1 a2 a3 a4 a5 a6 a7 a8 a9 a10 a11 a12 a13 v a15 a16 a17 a18 a19) r v
def R16.s15 (v : α) (r : R16 α) : R16 α := R16.rec (motive := fun _ => α → R16 α) (fun a0 a1 a2 a3 a4 a5 a6 a7 a8 a9 a10 a11 a12 a13 a14 _ a16 a17 a18 a19 v => .mk a0 a1 a2 a3 a4 a5 a6 a7 a8 a9 a10 a11 a12 a13 a14 v a16 a17 a18 a19) r v
def R16.s16 (v : α) (r : R16 α) : R16 α := R16.rec (motive := fun _ => α → R16 α) (fun a0 a1 a2 a3 a4 a5 a6 a7 a8 a9 a10 a11 a12 a13 a14 a15 _ a17 a18 a19 v => .mk a0 a1 a2 a3 a4 a5 a6 a7 a8 a9 a10 a11 a12 a13 a14 a15 v a17 a18 a19) r v
def R16.s17 (v : α) (r : R16 α) : R16 α := R16.rec (motive := fun _ => α → R16 α) (fun a0 a1 a2 a3 a4 a5 a6 a7 a8 a9 a10 a11 a12 a13 a14 a15 a16 _ a18 a19 v => .mk a0 a1 a2 a3 a4 a5 a6 a7 a8 a9 a10 a11 a12 a13 a14 a15 a16 v a18 a19) r v
def R16.s18 (v : α) (r : R16 α) : R16 α := R16.rec (motive := fun _ => α → R16 α) (fun a0 a1 a2 a3 a4 a5 a6 a7 a8 a9 a10 a11 a12 a13 a14 a15 a16 a17 _ a19 v => .mk a0 a1 a2 a3 a4 a5 a6 a7 a8 a9 a10 a11 a12 a13 a14 a15 a16 a17 v a19) r v
def R16.s19 (v : α) (r : R16 α) : R16 α := R16.rec (motive := fun _ => α → R16 α) (fun a0 a1 a2 a3 a4 a5 a6 a7 a8 a9 a10 a11 a12 a13 a14 a15 a16 a17 a18 _ v => .mk a0 a1 a2 a3 a4 a5 a6 a7 a8 a9 a10 a11 a12 a13 a14 a15 a16 a17 a18 v) r v
def R16.all (v : α) : R16 α := .mk v v v v v v v v v v v v v v v v v v v v
def sel (d : Nat) : Sel α := Nat.rec (motive := fun _ => Sel α) (.mk R16.a0 R16.s0) (fun d _ => Nat.rec (motive := fun _ => Sel α) (.mk R16.a1 R16.s1) (fun d _ => Nat.rec (motive := fun _ => Sel α) (.mk R16.a2 R16.s2) (fun d _ => Nat.rec (motive := fun _ => Sel α) (.mk R16.a3 R16.s3) (fun d _ => Nat.rec (motive := fun _ => Sel α) (.mk R16.a4 R16.s4) (fun d _ => Nat.rec (motive := fun _ => Sel α) (.mk R16.a5 R16.s5) (fun d _ => Nat.rec (motive := fun _ => Sel α) (.mk R16.a6 R16.s6) (fun d _ => Nat.rec (motive := fun _ => Sel α) (.mk R16.a7 R16.s7) (fun d _ => Nat.rec (motive := fun _ => Sel α) (.mk R16.a8 R16.s8) (fun d _ => Nat.rec (motive := fun _ => Sel α) (.mk R16.a9 R16.s9) (fun d _ => Nat.rec (motive := fun _ => Sel α) (.mk R16.a10 R16.s10) (fun d _ => Nat.rec (motive := fun _ => Sel α) (.mk R16.a11 R16.s11) (fun d _ => Nat.rec (motive := fun _ => Sel α) (.mk R16.a12 R16.s12) (fun d _ => Nat.rec (motive := fun _ => Sel α) (.mk R16.a13 R16.s13) (fun d _ => Nat.rec (motive := fun _ => Sel α) (.mk R16.a14 R16.s14) (fun d _ => Nat.rec (motive := fun _ => Sel α) (.mk R16.a15 R16.s15) (fun d _ => Nat.rec (motive := fun _ => Sel α) (.mk R16.a16 R16.s16) (fun d _ => Nat.rec (motive := fun _ => Sel α) (.mk R16.a17 R16.s17) (fun d _ => Nat.rec (motive := fun _ => Sel α) (.mk R16.a18 R16.s18) (fun _ _ => .mk R16.a19 R16.s19) d) d) d) d) d) d) d) d) d) d) d) d) d) d) d) d) d) d) d
def Sel.get (x : Sel α) (r : R16 α) : α := Sel.rec (motive := fun _ => R16 α → α) (fun g _ r => g r) x r
def Sel.set (x : Sel α) (v : α) (r : R16 α) : R16 α := Sel.rec (motive := fun _ => α → R16 α → R16 α) (fun _ s v r => s v r) x v r
theorem lt20 {i : Nat} (h : i < 20) : i = 0 ∨ i = 1 ∨ i = 2 ∨ i = 3 ∨ i = 4 ∨ i = 5 ∨ i = 6 ∨ i = 7 ∨ i = 8 ∨ i = 9 ∨ i = 10 ∨ i = 11 ∨ i = 12 ∨ i = 13 ∨ i = 14 ∨ i = 15 ∨ i = 16 ∨ i = 17 ∨ i = 18 ∨ i = 19 := by omega
theorem sel_same {i : Nat} (h : i < 20) (v : α) (r : R16 α) : (sel i).get ((sel i).set v r) = v := by
  rcases lt20 h with rfl | rfl | rfl | rfl | rfl | rfl | rfl | rfl | rfl | rfl | rfl | rfl | rfl | rfl | rfl | rfl | rfl | rfl | rfl | rfl <;> rfl
theorem sel_other {i j : Nat} (h : i < 20) (h' : j < 20) (hn : i ≠ j) (v : α) (r : R16 α) : (sel j).get ((sel i).set v r) = (sel j).get r := by
  rcases lt20 h with rfl | rfl | rfl | rfl | rfl | rfl | rfl | rfl | rfl | rfl | rfl | rfl | rfl | rfl | rfl | rfl | rfl | rfl | rfl | rfl <;> rcases lt20 h' with rfl | rfl | rfl | rfl | rfl | rfl | rfl | rfl | rfl | rfl | rfl | rfl | rfl | rfl | rfl | rfl | rfl | rfl | rfl | rfl <;> first | rfl | exact absurd rfl hn
theorem sel_all {i : Nat} (h : i < 20) (v : α) : (sel i).get (R16.all v) = v := by
  rcases lt20 h with rfl | rfl | rfl | rfl | rfl | rfl | rfl | rfl | rfl | rfl | rfl | rfl | rfl | rfl | rfl | rfl | rfl | rfl | rfl | rfl <;> rfl
end

abbrev Tb2 (α : Type) := R16 (R16 α)
abbrev Tb3 (α : Type) := R16 (R16 (R16 α))
abbrev Tb4 (α : Type) := R16 (R16 (R16 (R16 α)))
/-- How one place of a table is read and written. -/
inductive Acc (τ α : Type) where
  | mk (g : τ → α) (s : α → τ → τ)
section
variable {α β γ τ : Type}
def Acc.get (x : Acc τ α) (t : τ) : α := Acc.rec (motive := fun _ => τ → α) (fun g _ t => g t) x t
def Acc.set (x : Acc τ α) (v : α) (t : τ) : τ := Acc.rec (motive := fun _ => α → τ → τ) (fun _ s v t => s v t) x v t
def Acc.of (x : Sel α) : Acc (R16 α) α := Sel.rec (motive := fun _ => Acc (R16 α) α) (fun g s => .mk g s) x
def Acc.under (x : Sel β) (y : Acc β α) : Acc (R16 β) α :=
  Sel.rec (motive := fun _ => Acc (R16 β) α) (fun g s => Acc.rec (motive := fun _ => Acc (R16 β) α) (fun g' s' => .mk (fun t => g' (g t)) (fun v t => s (s' v (g t)) t)) y) x
theorem Acc.of_get (x : Sel α) (r : R16 α) : (Acc.of x).get r = x.get r := by cases x; rfl
theorem Acc.of_set (x : Sel α) (v : α) (r : R16 α) : (Acc.of x).set v r = x.set v r := by cases x; rfl
theorem Acc.under_get (x : Sel β) (y : Acc β α) (r : R16 β) : (Acc.under x y).get r = y.get (x.get r) := by cases x; cases y; rfl
theorem Acc.under_set (x : Sel β) (y : Acc β α) (v : α) (r : R16 β) : (Acc.under x y).set v r = x.set (y.set v (x.get r)) r := by cases x; cases y; rfl

def acc2 (n : Nat) : Acc (Tb2 α) α := .under (sel (Nat.mod (Nat.div n 20) 20)) (.of (sel (Nat.mod n 20)))
def acc3 (n : Nat) : Acc (Tb3 α) α := .under (sel (Nat.mod (Nat.div n 400) 20)) (acc2 n)
def acc4 (n : Nat) : Acc (Tb4 α) α := .under (sel (Nat.mod (Nat.div n 8000) 20)) (acc3 n)
def all2 (v : α) : Tb2 α := .all (.all v)
def all3 (v : α) : Tb3 α := .all (.all (.all v))
def all4 (v : α) : Tb4 α := .all (.all (.all (.all v)))
theorem m20 (n : Nat) : Nat.mod n 20 < 20 := Nat.mod_lt _ (by omega)

/-- Places that do not bear on one another. -/
structure Law (τ α : Type) (c : Nat) (acc : Nat → Acc τ α) (all : α → τ) : Prop where
  same : ∀ i, i < c → ∀ v t, (acc i).get ((acc i).set v t) = v
  other : ∀ i j, i < c → j < c → i ≠ j → ∀ v t, (acc j).get ((acc i).set v t) = (acc j).get t
  all : ∀ i, i < c → ∀ v, (acc i).get (all v) = v
theorem law2 : Law (Tb2 α) α 400 acc2 all2 where
  same := by
    intro i hi v t
    simp only [acc2, Acc.under_get, Acc.under_set, Acc.of_get, Acc.of_set]
    rw [sel_same (m20 _), sel_same (m20 _)]
  other := by
    intro i j hi hj hn v t
    simp only [acc2, Acc.under_get, Acc.under_set, Acc.of_get, Acc.of_set]
    by_cases h : Nat.mod (Nat.div i 20) 20 = Nat.mod (Nat.div j 20) 20
    · rw [h, sel_same (m20 _)]
      rw [sel_other (m20 _) (m20 _)]
      have h' : i / 20 % 20 = j / 20 % 20 := h
      have : i % 20 ≠ j % 20 := by omega
      exact this
    · rw [sel_other (m20 _) (m20 _) h]
  all := by
    intro i hi v
    simp only [acc2, all2, Acc.under_get, Acc.of_get]
    rw [sel_all (m20 _), sel_all (m20 _)]
theorem law_up {c c' : Nat} {acc : Nat → Acc β α} {al : α → β} (d : Nat → Nat) (hd : ∀ i, d i < 20) (h : Law β α c acc al) (low : Nat → Nat) (hlow : ∀ i, i < c' → low i < c)
    (hacc : ∀ i, i < c' → acc i = acc (low i)) (hinj : ∀ i j, i < c' → j < c' → d i = d j → low i = low j → i = j) :
    Law (R16 β) α c' (fun n => .under (sel (d n)) (acc n)) (fun v => .all (al v)) where
  same := by
    intro i hi v t
    simp only [Acc.under_get, Acc.under_set]
    rw [sel_same (hd _), hacc i hi, h.same _ (hlow i hi)]
  other := by
    intro i j hi hj hn v t
    simp only [Acc.under_get, Acc.under_set]
    by_cases e : d i = d j
    · rw [e, sel_same (hd _), hacc i hi, hacc j hj, h.other _ _ (hlow i hi) (hlow j hj)]
      exact fun q => hn (hinj i j hi hj e q)
    · rw [sel_other (hd _) (hd _) e]
  all := by
    intro i hi v
    simp only [Acc.under_get]
    rw [sel_all (hd _), hacc i hi, h.all _ (hlow i hi)]
theorem acc2_mod (i : Nat) : (acc2 i : Acc (Tb2 α) α) = acc2 (i % 400) := by
  have h1 : Nat.mod (Nat.div i 20) 20 = Nat.mod (Nat.div (i % 400) 20) 20 := by show i / 20 % 20 = (i % 400) / 20 % 20; omega
  have h2 : Nat.mod i 20 = Nat.mod (i % 400) 20 := by show i % 20 = (i % 400) % 20; omega
  unfold acc2; rw [← h1, ← h2]
theorem acc3_mod (i : Nat) : (acc3 i : Acc (Tb3 α) α) = acc3 (i % 8000) := by
  have h1 : Nat.mod (Nat.div i 400) 20 = Nat.mod (Nat.div (i % 8000) 400) 20 := by show i / 400 % 20 = (i % 8000) / 400 % 20; omega
  have h2 : i % 400 = (i % 8000) % 400 := by omega
  unfold acc3; rw [← h1, acc2_mod i, acc2_mod (i % 8000), ← h2]
theorem law3 : Law (Tb3 α) α 8000 acc3 all3 :=
  law_up (acc := acc2) (fun n => Nat.mod (Nat.div n 400) 20) (fun _ => m20 _) law2 (fun i => i % 400) (fun i _ => Nat.mod_lt _ (by omega)) (fun i _ => acc2_mod i)
    (fun i j hi hj h1 h2 => by
      have h1' : i / 400 % 20 = j / 400 % 20 := h1
      have h2' : i % 400 = j % 400 := h2
      omega)
theorem law4 : Law (Tb4 α) α 160000 acc4 all4 :=
  law_up (acc := acc3) (fun n => Nat.mod (Nat.div n 8000) 20) (fun _ => m20 _) law3 (fun i => i % 8000) (fun i _ => Nat.mod_lt _ (by omega)) (fun i _ => acc3_mod i)
    (fun i j hi hj h1 h2 => by
      have h1' : i / 8000 % 20 = j / 8000 % 20 := h1
      have h2' : i % 8000 = j % 8000 := h2
      omega)
end
end
end Go.Proofs.YtbobnbndbgpanaaGreat.Sx
