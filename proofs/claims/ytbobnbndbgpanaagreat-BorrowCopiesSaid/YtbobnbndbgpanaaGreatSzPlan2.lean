/- The check of an order, quicker for the kernel: sets as bits. -/
import Derived.Test.YtbobnbndbgpanaaGreatSzPlan
namespace Go.Proofs.YtbobnbndbgpanaaGreat.Sx
open Go
set_option linter.unusedVariables false
set_option linter.unusedSimpArgs false
noncomputable section

/-- Of each operation what its place in an order asks. -/
structure OI where
  o : Oper
  i : Nat
  bit : Nat
  /-- those that come before it in every order -/
  m : Nat
  /-- those that it waits for -/
  d : Nat
  /-- what it writes, what it looks at -/
  db : Nat
  lk : Nat
  ef : Bool
  ml : Bool
def seqT {α : Type} (n : Nat) (f : Nat → α) : α := Nat.rec (motive := fun _ => (Nat → α) → α) (fun f => f 0) (fun m _ f => f (Nat.succ m)) n f
theorem seqT_eq {α : Type} (n : Nat) (f : Nat → α) : seqT n f = f n := by cases n <;> rfl
def seqBo {α : Type} (b : Bool) (f : Bool → α) : α := Bool.rec (motive := fun _ => α) (f false) (f true) b
theorem seqBo_eq {α : Type} (b : Bool) (f : Bool → α) : seqBo b f = f b := by cases b <;> rfl
def two256 : Nat := 115792089237316195423570985008687907853269984665640564039457584007913129639936
theorem two256_eq : two256 = 2 ^ 256 := by decide +kernel
def mAt (M j : Nat) : Nat := Nat.mod (Nat.shiftRight M (Nat.mul 256 j)) two256
/-- Does an edge bind? -/
def bindsF (e : Edge) : Bool := Edge.rec (motive := fun _ => Bool) (fun _ g => Ground.rec (motive := fun _ => Bool) true true true true (fun _ => false) (fun _ => false) g) e
theorem bindsF_eq (e : Edge) : bindsF e = Region.binds .any e := by
  obtain ⟨on, g⟩ := e
  cases g <;> rfl
/-- Those that an operation waits for, and those before them. -/
def edgesGo (M : Nat) (k : Nat → Nat → List OI) (l : List Edge) : Nat → Nat → List OI :=
  List.rec (motive := fun _ => Nat → Nat → List OI) k
    (fun e _ ih d r => Bool.rec (motive := fun _ => List OI) (ih d r) (seqT (Nat.shiftLeft 1 e.on) fun b => seqT (Nat.lor d b) fun d => seqT (Nat.lor (Nat.lor r b) (mAt M e.on)) fun r => ih d r) (bindsF e)) l
def edgesF (M : Nat) (l : List Edge) (k : Nat → Nat → List OI) : List OI := edgesGo M k l 0 0
def bitsOf (l : List Nat) : Nat := List.rec (motive := fun _ => Nat) 0 (fun t _ ih => Nat.lor (Nat.shiftLeft 1 t) ih) l
def dstBit (d : Option Tmp) : Nat := Option.rec (motive := fun _ => Nat) 0 (fun d => Nat.shiftLeft 1 d) d
def infoGo (ops : Array Oper) (l : List Oper) (n M : Nat) : List OI :=
  List.rec (motive := fun _ => Nat → Nat → List OI) (fun _ _ => .nil)
    (fun o _ ih n M => edgesF M o.after.toList fun d r => seqT (Nat.shiftLeft 1 n) fun bit => seqT (dstBit o.dst) fun db => seqT (bitsOf (o.looksAt ops)) fun lk =>
      seqBo (memless o) fun ml => seqBo (isEff o) fun ef => .cons (.mk o n bit r d db lk ef ml) (seqT (Nat.lor M (Nat.shiftLeft (Nat.mod r two256) (Nat.mul 256 n))) (ih (Nat.succ n)))) l n M
def infos (ops : Array Oper) : List OI := infoGo ops ops.toList 0 0

/-! ### One order -/
/-- How many effects among these are in the set. -/
def cntGo (a : Nat) (l : List OI) : Nat := List.rec (motive := fun _ => Nat) 0 (fun p _ ih => Bool.rec (motive := fun _ => Nat) ih (Bool.rec (motive := fun _ => Nat) (Nat.succ ih) ih (Nat.beq (Nat.land a p.bit) 0)) p.ef) l
def cntF (a : Nat) (l : List OI) : Nat := Bool.rec (motive := fun _ => Nat) (cntGo a l) 0 (Nat.beq a 0)
def restF (s : Nat) (k : Nat → List OI) (l : List OI) (done : Nat) : List OI :=
  List.rec (motive := fun _ => Nat → List OI) k (fun p _ ih done => Bool.rec (motive := fun _ => List OI) (Bool.rec (motive := fun _ => List OI) (ih done) (.cons p (seqT (Nat.lor done p.bit) ih)) (Nat.beq (Nat.land done p.bit) 0)) (ih done) (Nat.beq (Nat.land s p.bit) 0)) l done
def orderF (inf : List OI) (allM : Nat) (l : List OI) (done : Nat) : List OI :=
  List.rec (motive := fun _ => Nat → List OI) (fun done => restF allM (fun _ => .nil) inf done) (fun e _ ih done => Bool.rec (motive := fun _ => List OI) (ih done) (seqT (Nat.lor e.m e.bit) fun s => restF s ih inf done) e.ef) l done
def backsF (l : List OI) (prev : List OI) (pm : Nat) : List (Nat × Nat) :=
  List.rec (motive := fun _ => List OI → Nat → List (Nat × Nat)) (fun _ _ => .nil)
    (fun y _ ih prev pm => seqT (Bool.rec (motive := fun _ => Nat) (seqT (Nat.xor pm (Nat.land pm y.m)) fun a => cntF a prev) 0 y.ml) fun b => .cons (.mk y.i b) (seqT (Nat.lor pm y.bit) (ih (.cons y prev)))) l prev pm
def lenL {α : Type} (l : List α) : Nat := List.rec (motive := fun _ => Nat) 0 (fun _ _ n => Nat.succ n) l
def fullM (n : Nat) : Nat := Nat.sub (Nat.shiftLeft 1 n) 1
def planOf (ops : Array Oper) : List (Nat × Nat) := backsF (orderF (infos ops) (fullM (lenL ops.toList)) (infos ops) 0) .nil 0

/-! ### The check -/
def apartF (a : Nat) (y : OI) (l : List OI) : Bool :=
  List.rec (motive := fun _ => Bool) true (fun p _ ih => Bool.rec (motive := fun _ => Bool) (Bool.rec (motive := fun _ => Bool) false (Bool.rec (motive := fun _ => Bool) false ih (Nat.beq (Nat.land y.db p.lk) 0)) (Nat.beq (Nat.land p.db (Nat.lor y.lk y.db)) 0)) ih (Nat.beq (Nat.land a p.bit) 0)) l
def andF (a b : Bool) : Bool := Bool.rec (motive := fun _ => Bool) false b a
theorem andF_eq (a b : Bool) : andF a b = (a && b) := by cases a <;> rfl
def orF (a b : Bool) : Bool := Bool.rec (motive := fun _ => Bool) b true a
theorem orF_eq (a b : Bool) : orF a b = (a || b) := by cases a <;> rfl
def notF (a : Bool) : Bool := Bool.rec (motive := fun _ => Bool) true false a
def oneF (y : OI) (b : Nat) (prev : List OI) (pm : Nat) : Bool :=
  andF (Nat.beq (Nat.lor y.d pm) pm) (andF (Nat.beq (Nat.land pm y.bit) 0) (seqT (Nat.xor pm (Nat.land pm y.m)) fun a =>
    andF (orF (Nat.beq a 0) (andF (notF y.ef) (apartF a y prev))) (orF y.ml (Nat.ble (cntF a prev) b))))
def chkF (inf : List OI) (full : Nat) (l : List (Nat × Nat)) (prev : List OI) (pm : Nat) : Bool :=
  List.rec (motive := fun _ => List OI → Nat → Bool) (fun _ pm => Nat.beq pm full)
    (fun it _ ih prev pm => Prod.rec (motive := fun _ => Bool) (fun i b => Option.rec (motive := fun _ => Bool) false (fun y => andF (oneF y b prev pm) (seqT (Nat.lor pm y.bit) (ih (.cons y prev)))) (nth inf i)) it) l prev pm
def planF (ops : Array Oper) (items : List (Nat × Nat)) : Bool := chkF (infos ops) (fullM (lenL ops.toList)) items .nil 0
end
end Go.Proofs.YtbobnbndbgpanaaGreat.Sx
