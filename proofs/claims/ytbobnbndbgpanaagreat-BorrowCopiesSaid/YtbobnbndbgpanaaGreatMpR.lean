/- Reader.is and Reader.kind of the reference parser: what they answer. -/
import Derived.Test.YtbobnbndbgpanaaGreatMpD
import Derived.Deep.QuietTactic
import Derived.BigQuiet
import Derived.WalkSmall
namespace Go.Proofs.YtbobnbndbgpanaaGreat.W
open Go Go.RowKit Go.Proofs Go.Proofs.YtbobnbndbgpanaaGreat.Sx
set_option linter.unusedVariables false
set_option linter.unusedSimpArgs false
set_option maxHeartbeats 4000000 in
set_option maxRecDepth 100000 in
theorem is_bad (W : World) (b o : Nat) (e : Int) (s : ByteArray) (he : e ≠ 0) (c3 : W.cell? ⟨b, o + 3, none⟩ = some (.int .i64 e)) :
    Calls Tryz.prog 70 #[.pointer (some ⟨b, o, none⟩), .string s] W fun e w' => e = .returned (.bool false) ∧ Below W.heap.size W w' := by
  have t1 : (e == 0) = false := by simpa using he
  go_enter Tryz.func70, Tryz.ntmps70
  go_upto_region 1 with fail
  go_quiet (fail)
  go_wp2
  exact bodyPost_ret (v := .bool false) (by simp [results, Tryz.results70, go_sem]) rfl ⟨rfl, below_drewN (Below.refl _ _) _⟩
set_option maxHeartbeats 4000000 in
set_option maxRecDepth 100000 in
theorem is_end (W : World) (b o : Nat) (la : Option Addr) (n c : Nat) (i : Int) (s : ByteArray) (hi : (n : Int) ≤ i) (hi2 : i ≤ 9223372036854775807) (c0 : W.cell? ⟨b, o, none⟩ = some (.slice la n c)) (c1 : W.cell? ⟨b, o + 1, none⟩ = some (.int .i64 i)) (c3 : W.cell? ⟨b, o + 3, none⟩ = some (.int .i64 0)) :
    Calls Tryz.prog 70 #[.pointer (some ⟨b, o, none⟩), .string s] W fun e w' => e = .returned (.bool false) ∧ Below W.heap.size W w' := by
  have t1 : decide (i < (n : Int)) = false := by simp; omega
  go_enter Tryz.func70, Tryz.ntmps70
  go_upto_region 1 with fail
  go_quiet (fail)
  go_wp2
  exact bodyPost_ret (v := .bool false) (by simp [results, Tryz.results70, go_sem]) rfl ⟨rfl, below_drewN (Below.refl _ _) _⟩

set_option maxHeartbeats 4000000 in
set_option maxRecDepth 100000 in
theorem is_kind (W : World) (b o : Nat) (tb tf n c i : Nat) (kd : Int) (tx : ByteArray) (s : ByteArray) (hi : i < n) (hn : n ≤ 9223372036854775807) (hk : kd < 3) (c0 : W.cell? ⟨b, o, none⟩ = some (.slice (some ⟨tb, tf, none⟩) n c)) (c1 : W.cell? ⟨b, o + 1, none⟩ = some (.int .i64 i)) (c3 : W.cell? ⟨b, o + 3, none⟩ = some (.int .i64 0))
    (d0 : W.cell? ⟨tb, tf + i * 3, none⟩ = some (.int .i64 kd)) (d1 : W.cell? ⟨tb, tf + i * 3 + 1, none⟩ = some (.string tx)) :
    Calls Tryz.prog 70 #[.pointer (some ⟨b, o, none⟩), .string s] W fun e w' => e = .returned (.bool false) ∧ Below W.heap.size W w' := by
  have t0 : decide (3 ≤ kd) = false := by simp; omega
  have t1 : decide ((i : Int) < (n : Int)) = true := by simp; omega
  have t2 : (i : Int) < (n : Int) := by omega
  have t3 : (0 : Int) ≤ (i : Int) := by omega
  go_enter Tryz.func70, Tryz.ntmps70
  go_upto_region 1 with fail
  go_quiet (fail)
  go_wp2
  exact bodyPost_ret (v := .bool false) (by simp [results, Tryz.results70, go_sem]) rfl ⟨rfl, below_drewN (Below.refl _ _) _⟩
set_option maxHeartbeats 4000000 in
set_option maxRecDepth 100000 in
theorem is_text (W : World) (b o : Nat) (tb tf n c i : Nat) (kd : Int) (tx : ByteArray) (s : ByteArray) (hi : i < n) (hn : n ≤ 9223372036854775807) (hk : 3 ≤ kd) (c0 : W.cell? ⟨b, o, none⟩ = some (.slice (some ⟨tb, tf, none⟩) n c)) (c1 : W.cell? ⟨b, o + 1, none⟩ = some (.int .i64 i)) (c3 : W.cell? ⟨b, o + 3, none⟩ = some (.int .i64 0))
    (d0 : W.cell? ⟨tb, tf + i * 3, none⟩ = some (.int .i64 kd)) (d1 : W.cell? ⟨tb, tf + i * 3 + 1, none⟩ = some (.string tx)) :
    Calls Tryz.prog 70 #[.pointer (some ⟨b, o, none⟩), .string s] W fun e w' => e = .returned (.bool (tx.toList == s.toList)) ∧ Below W.heap.size W w' := by
  have t0 : decide (3 ≤ kd) = true := by simp; omega
  have t1 : decide ((i : Int) < (n : Int)) = true := by simp; omega
  have t2 : (i : Int) < (n : Int) := by omega
  have t3 : (0 : Int) ≤ (i : Int) := by omega
  go_enter Tryz.func70, Tryz.ntmps70
  go_upto_region 1 with fail
  go_quiet (fail)
  go_wp2
  exact bodyPost_ret (v := .bool (tx.toList == s.toList)) (by simp [results, Tryz.results70, go_sem]) rfl ⟨rfl, below_drewN (Below.refl _ _) _⟩
set_option maxHeartbeats 4000000 in
set_option maxRecDepth 100000 in
theorem kind_of (W : World) (b o : Nat) (tb tf n c i : Nat) (kd : Int) (tx : ByteArray) (q : Int) (hi : i < n) (hn : n ≤ 9223372036854775807)  (c0 : W.cell? ⟨b, o, none⟩ = some (.slice (some ⟨tb, tf, none⟩) n c)) (c1 : W.cell? ⟨b, o + 1, none⟩ = some (.int .i64 i)) (c3 : W.cell? ⟨b, o + 3, none⟩ = some (.int .i64 0))
    (d0 : W.cell? ⟨tb, tf + i * 3, none⟩ = some (.int .i64 kd)) (d1 : W.cell? ⟨tb, tf + i * 3 + 1, none⟩ = some (.string tx)) :
    Calls Tryz.prog 71 #[.pointer (some ⟨b, o, none⟩), .int .i64 q] W fun e w' => e = .returned (.bool (kd == q)) ∧ Below W.heap.size W w' := by
  have t1 : decide ((i : Int) < (n : Int)) = true := by simp; omega
  have t2 : (i : Int) < (n : Int) := by omega
  have t3 : (0 : Int) ≤ (i : Int) := by omega
  go_enter Tryz.func71, Tryz.ntmps71
  go_upto_region 1 with fail
  go_quiet (fail)
  go_wp2
  exact bodyPost_ret (v := .bool (kd == q)) (by simp [results, Tryz.results71, go_sem]) rfl ⟨rfl, below_drewN (Below.refl _ _) _⟩
set_option maxHeartbeats 4000000 in
set_option maxRecDepth 100000 in
theorem kind_bad (W : World) (b o : Nat) (e : Int) (q : Int) (he : e ≠ 0) (c3 : W.cell? ⟨b, o + 3, none⟩ = some (.int .i64 e)) :
    Calls Tryz.prog 71 #[.pointer (some ⟨b, o, none⟩), .int .i64 q] W fun e w' => e = .returned (.bool false) ∧ Below W.heap.size W w' := by
  have t1 : (e == 0) = false := by simpa using he
  go_enter Tryz.func71, Tryz.ntmps71
  go_upto_region 1 with fail
  go_quiet (fail)
  go_wp2
  exact bodyPost_ret (v := .bool false) (by simp [results, Tryz.results71, go_sem]) rfl ⟨rfl, below_drewN (Below.refl _ _) _⟩
set_option maxHeartbeats 4000000 in
set_option maxRecDepth 100000 in
theorem kind_end (W : World) (b o : Nat) (la : Option Addr) (n c : Nat) (i : Int) (q : Int) (hi : (n : Int) ≤ i) (hi2 : i ≤ 9223372036854775807) (c0 : W.cell? ⟨b, o, none⟩ = some (.slice la n c)) (c1 : W.cell? ⟨b, o + 1, none⟩ = some (.int .i64 i)) (c3 : W.cell? ⟨b, o + 3, none⟩ = some (.int .i64 0)) :
    Calls Tryz.prog 71 #[.pointer (some ⟨b, o, none⟩), .int .i64 q] W fun e w' => e = .returned (.bool false) ∧ Below W.heap.size W w' := by
  have t1 : decide (i < (n : Int)) = false := by simp; omega
  go_enter Tryz.func71, Tryz.ntmps71
  go_upto_region 1 with fail
  go_quiet (fail)
  go_wp2
  exact bodyPost_ret (v := .bool false) (by simp [results, Tryz.results71, go_sem]) rfl ⟨rfl, below_drewN (Below.refl _ _) _⟩

end Go.Proofs.YtbobnbndbgpanaaGreat.W
