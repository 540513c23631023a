/- What ref.Do answers. -/
import Derived.Test.YtfkhlmmapopacaaProg
import Derived.Test.YtfkhlmmapopacaaSxSum
import Derived.Test.YtfkhlmmapopacaaDoRefT
namespace Go.Proofs.Ytfkhlmmapopacaa.Sx
open Go Go.RowKit
set_option linter.unusedVariables false
set_option linter.unusedSimpArgs false
set_option maxRecDepth 100000

theorem ok_iff (k v : Int) : ok k v ↔ (kI k = true ∧ kLo k ≤ v ∧ v ≤ kHi k) := by
  unfold ok
  rcases kinds7 k with rfl | rfl | rfl | rfl | rfl | rfl | hk
  · simp only [show kI 3 = true from rfl, show kW 3 v = IntKind.i8.wrap v from rfl, show kLo 3 = -128 from rfl, show kHi 3 = 127 from rfl, true_and, wrap_i8]; omega
  · simp only [show kI 4 = true from rfl, show kW 4 v = IntKind.i16.wrap v from rfl, show kLo 4 = -32768 from rfl, show kHi 4 = 32767 from rfl, true_and, wrap_i16]; omega
  · simp only [show kI 5 = true from rfl, show kW 5 v = IntKind.i32.wrap v from rfl, show kLo 5 = -2147483648 from rfl, show kHi 5 = 2147483647 from rfl, true_and, wrap_i32]; omega
  · simp only [show kI 6 = true from rfl, show kW 6 v = IntKind.u8.wrap v from rfl, show kLo 6 = 0 from rfl, show kHi 6 = 255 from rfl, true_and, wrap_u8]; omega
  · simp only [show kI 7 = true from rfl, show kW 7 v = IntKind.u16.wrap v from rfl, show kLo 7 = 0 from rfl, show kHi 7 = 65535 from rfl, true_and, wrap_u16]; omega
  · simp only [show kI 8 = true from rfl, show kW 8 v = IntKind.u32.wrap v from rfl, show kLo 8 = 0 from rfl, show kHi 8 = 4294967295 from rfl, true_and, wrap_u32]; omega
  · have : kI k = false := by unfold kI; simp [hk]
    simp [this]
theorem lo_hi (k : Int) : -2147483648 ≤ kLo k ∧ kHi k ≤ 4294967295 := by
  unfold kLo kHi; constructor <;> (repeat' split) <;> omega
theorem rem_eq (a b : Int) (ha : -1099511627776 ≤ a ∧ a ≤ 1099511627776) (hb : ¬ b = 0) : IntKind.i64.wrap (a - IntKind.i64.wrap (IntKind.i64.wrap (a.tdiv b) * b)) = a.tmod b := by
  have h1 : (a.tdiv b).natAbs ≤ a.natAbs := by rw [Int.natAbs_tdiv]; exact Nat.div_le_self _ _
  have h2 : (a.tmod b).natAbs ≤ a.natAbs := by rw [Int.natAbs_tmod]; exact Nat.mod_le _ _
  have h3 := Int.tmod_def a b
  rw [Int.mul_comm] at h3
  have e1 : IntKind.i64.wrap (a.tdiv b) = a.tdiv b := by rw [wrap_i64]; omega
  rw [e1]
  have e2 : IntKind.i64.wrap (a.tdiv b * b) = a.tdiv b * b := by rw [wrap_i64]; omega
  rw [e2, wrap_i64]; omega
theorem kB_le (k : Int) : 0 ≤ kB k ∧ kB k ≤ 32 := by
  unfold kB; constructor <;> (repeat' split) <;> omega
theorem u64_id (b : Int) (h : 0 ≤ b ∧ b ≤ 32) : IntKind.u64.wrap b = b := by rw [wrap_u64]; omega
theorem pow_bound (b : Int) (h : 0 ≤ b ∧ b ≤ 32) : 1 ≤ (2 : Int) ^ shN .i64 b ∧ (2 : Int) ^ shN .i64 b ≤ 4294967296 := by
  have e : shN .i64 b = b.toNat := by unfold shN; simp [IntKind.bits]; omega
  have e2 : ((2 : Int) ^ shN .i64 b) = ((2 ^ shN .i64 b : Nat) : Int) := by simp
  have hle : (2 : Nat) ^ shN .i64 b ≤ 2 ^ 32 := Nat.pow_le_pow_right (by omega) (by omega)
  have hp := Nat.two_pow_pos (shN .i64 b)
  omega
theorem wrap_pow {b k : Int} (h : 0 ≤ b) (h' : b < kB k) : IntKind.i64.wrap (2 ^ shN .i64 b) = 2 ^ shN .i64 b := by
  have := pow_bound b (by have := kB_le k; omega)
  rw [wrap_i64]; omega
theorem pow_ne {b k : Int} (h : 0 ≤ b) (h' : b < kB k) : ¬ (2 : Int) ^ shN .i64 b = 0 := by
  have := pow_bound b (by have := kB_le k; omega)
  omega
theorem shr_eq (a c : Int) (hc : 1 ≤ c ∧ c ≤ 4294967296) (ha : -1099511627776 ≤ a ∧ a ≤ 1099511627776) :
    IntKind.i64.wrap ((IntKind.i64.wrap (a - (IntKind.i64.wrap (a.tmod c + c)).tmod c)).tdiv c) = a.fdiv c := by
  have h1 := Int.tmod_lt_of_pos a (b := c) (by omega)
  have h2 := Int.neg_tmod a c
  have h3 := Int.tmod_lt_of_pos (-a) (b := c) (by omega)
  have e1 : IntKind.i64.wrap (a.tmod c + c) = a.tmod c + c := by rw [wrap_i64]; omega
  rw [e1, tmod_mod a c (by omega)]
  have h4 := Int.emod_nonneg a (b := c) (by omega)
  have h5 := Int.emod_lt_of_pos a (b := c) (by omega)
  have h6 := Int.emod_add_mul_ediv a c
  have e2 : IntKind.i64.wrap (a - a % c) = c * (a / c) := by rw [wrap_i64]; omega
  rw [e2, Int.mul_tdiv_cancel_left _ (by omega), Int.fdiv_eq_ediv_of_nonneg _ (by omega)]
  have h7 : (a / c).natAbs ≤ (c * (a / c)).natAbs := by
    rw [Int.natAbs_mul]; exact Nat.le_mul_of_pos_left _ (by omega)
  rw [wrap_i64]; omega
set_option maxHeartbeats 4000000 in
theorem rdo_calls (s : ByteArray) (k a b : Int) (W : World) : Calls Try.prog 21 #[.string s, .int .i64 k, .int .i64 a, .int .i64 b] W fun e W' => e = .returned (.tuple #[.int .i64 (sgV (sgC s) k a b), .int .i64 (sgF (sgC s) k a b)]) ∧ Below W.heap.size W W' := by
  rcases sgC_cases s with rfl | rfl | rfl | rfl | rfl | rfl | rfl | rfl | rfl | rfl | ⟨hc, ho⟩
  · refine contract (η := { i := fun n => if n = 0 then k else if n = 1 then a else b, s := fun _ => ⟨([43] : List UInt8).toArray⟩, fi := kF, fb := kG }) (plain_of (by kernel_rfl)) (by kernel_rfl) (sum2_ok _ rfl rfl) (n := 60) (args := [.str (.lit [43]), .int .i64 (.var 0), .int .i64 (.var 1), .int .i64 (.var 2)]) (args' := [.string ⟨([43] : List UInt8).toArray⟩, .int .i64 k, .int .i64 a, .int .i64 b]) (.cons _ _ _ _ (.str _) (.cons _ _ _ _ (.int _ _) (.cons _ _ _ _ (.int _ _) (.cons _ _ _ _ (.int _ _) .nil)))) facts_none ?_ W
    rw [rdo0_eq]
    rw [show sgC ⟨([43] : List UInt8).toArray⟩ = 0 from by simp [sgC]]
    simp only [rdo0T, T.gives, V.val, V.vals, B.prop, E.den, propI, kF10, kF11, kF12, kF13, kG10, kG11, Option.map_some, Option.some.injEq, Value.tuple.injEq, sgV, sgF, fitV, fitF, ok_iff]
    repeat' first | apply And.intro | intro _
    all_goals (try simp_all)
    all_goals (try (intro hh; omega))
    all_goals (try (refine ⟨?_, ?_⟩ <;> (repeat' split) <;> first | rfl | omega))
  · refine contract (η := { i := fun n => if n = 0 then k else if n = 1 then a else b, s := fun _ => ⟨([45] : List UInt8).toArray⟩, fi := kF, fb := kG }) (plain_of (by kernel_rfl)) (by kernel_rfl) (sum2_ok _ rfl rfl) (n := 60) (args := [.str (.lit [45]), .int .i64 (.var 0), .int .i64 (.var 1), .int .i64 (.var 2)]) (args' := [.string ⟨([45] : List UInt8).toArray⟩, .int .i64 k, .int .i64 a, .int .i64 b]) (.cons _ _ _ _ (.str _) (.cons _ _ _ _ (.int _ _) (.cons _ _ _ _ (.int _ _) (.cons _ _ _ _ (.int _ _) .nil)))) facts_none ?_ W
    rw [rdo1_eq]
    rw [show sgC ⟨([45] : List UInt8).toArray⟩ = 1 from by simp [sgC]]
    simp only [rdo1T, T.gives, V.val, V.vals, B.prop, E.den, propI, kF10, kF11, kF12, kF13, kG10, kG11, Option.map_some, Option.some.injEq, Value.tuple.injEq, sgV, sgF, fitV, fitF, ok_iff]
    repeat' first | apply And.intro | intro _
    all_goals (try simp_all)
    all_goals (try (intro hh; omega))
    all_goals (try (refine ⟨?_, ?_⟩ <;> (repeat' split) <;> first | rfl | omega))
  · refine contract (η := { i := fun n => if n = 0 then k else if n = 1 then a else b, s := fun _ => ⟨([42] : List UInt8).toArray⟩, fi := kF, fb := kG }) (plain_of (by kernel_rfl)) (by kernel_rfl) (sum2_ok _ rfl rfl) (n := 60) (args := [.str (.lit [42]), .int .i64 (.var 0), .int .i64 (.var 1), .int .i64 (.var 2)]) (args' := [.string ⟨([42] : List UInt8).toArray⟩, .int .i64 k, .int .i64 a, .int .i64 b]) (.cons _ _ _ _ (.str _) (.cons _ _ _ _ (.int _ _) (.cons _ _ _ _ (.int _ _) (.cons _ _ _ _ (.int _ _) .nil)))) facts_none ?_ W
    rw [rdo2_eq]
    rw [show sgC ⟨([42] : List UInt8).toArray⟩ = 2 from by simp [sgC]]
    simp only [rdo2T, T.gives, V.val, V.vals, B.prop, E.den, propI, kF10, kF11, kF12, kF13, kG10, kG11, Option.map_some, Option.some.injEq, Value.tuple.injEq, sgV, sgF, fitV, fitF, ok_iff]
    repeat' first | apply And.intro | intro _
    all_goals (try simp_all)
    all_goals (try (intro hh; omega))
    all_goals (try (refine ⟨?_, ?_⟩ <;> (repeat' split) <;> first | rfl | omega))
  · refine contract (η := { i := fun n => if n = 0 then k else if n = 1 then a else b, s := fun _ => ⟨([47] : List UInt8).toArray⟩, fi := kF, fb := kG }) (plain_of (by kernel_rfl)) (by kernel_rfl) (sum2_ok _ rfl rfl) (n := 60) (args := [.str (.lit [47]), .int .i64 (.var 0), .int .i64 (.var 1), .int .i64 (.var 2)]) (args' := [.string ⟨([47] : List UInt8).toArray⟩, .int .i64 k, .int .i64 a, .int .i64 b]) (.cons _ _ _ _ (.str _) (.cons _ _ _ _ (.int _ _) (.cons _ _ _ _ (.int _ _) (.cons _ _ _ _ (.int _ _) .nil)))) facts_none ?_ W
    rw [rdo3_eq]
    rw [show sgC ⟨([47] : List UInt8).toArray⟩ = 3 from by simp [sgC]]
    simp only [rdo3T, T.gives, V.val, V.vals, B.prop, E.den, propI, kF10, kF11, kF12, kF13, kG10, kG11, Option.map_some, Option.some.injEq, Value.tuple.injEq, sgV, sgF, fitV, fitF, ok_iff]
    repeat' first | apply And.intro | intro _
    all_goals (try simp_all)
    all_goals (try (intro hh; omega))
    all_goals (try (refine ⟨?_, ?_⟩ <;> (repeat' split) <;> first | rfl | omega))
  · refine contract (η := { i := fun n => if n = 0 then k else if n = 1 then a else b, s := fun _ => ⟨([37] : List UInt8).toArray⟩, fi := kF, fb := kG }) (plain_of (by kernel_rfl)) (by kernel_rfl) (sum2_ok _ rfl rfl) (n := 60) (args := [.str (.lit [37]), .int .i64 (.var 0), .int .i64 (.var 1), .int .i64 (.var 2)]) (args' := [.string ⟨([37] : List UInt8).toArray⟩, .int .i64 k, .int .i64 a, .int .i64 b]) (.cons _ _ _ _ (.str _) (.cons _ _ _ _ (.int _ _) (.cons _ _ _ _ (.int _ _) (.cons _ _ _ _ (.int _ _) .nil)))) facts_none ?_ W
    rw [rdo4_eq]
    rw [show sgC ⟨([37] : List UInt8).toArray⟩ = 4 from by simp [sgC]]
    simp only [rdo4T, T.gives, V.val, V.vals, B.prop, E.den, propI, kF10, kF11, kF12, kF13, kG10, kG11, Option.map_some, Option.some.injEq, Value.tuple.injEq, sgV, sgF, fitV, fitF, ok_iff]
    repeat' first | apply And.intro | intro _
    all_goals (try simp_all)
    all_goals (try (intro hh; omega))
    all_goals first | exact rem_eq a b (by have := lo_hi k; omega) (by assumption) | (refine ⟨?_, ?_⟩ <;> (intros; exfalso; omega))
  · refine contract (η := { i := fun n => if n = 0 then k else if n = 1 then a else b, s := fun _ => ⟨([38] : List UInt8).toArray⟩, fi := kF, fb := kG }) (plain_of (by kernel_rfl)) (by kernel_rfl) (sum2_ok _ rfl rfl) (n := 60) (args := [.str (.lit [38]), .int .i64 (.var 0), .int .i64 (.var 1), .int .i64 (.var 2)]) (args' := [.string ⟨([38] : List UInt8).toArray⟩, .int .i64 k, .int .i64 a, .int .i64 b]) (.cons _ _ _ _ (.str _) (.cons _ _ _ _ (.int _ _) (.cons _ _ _ _ (.int _ _) (.cons _ _ _ _ (.int _ _) .nil)))) facts_none ?_ W
    rw [rdo5_eq]
    rw [show sgC ⟨([38] : List UInt8).toArray⟩ = 5 from by simp [sgC]]
    simp only [rdo5T, T.gives, V.val, V.vals, B.prop, E.den, propI, kF10, kF11, kF12, kF13, kG10, kG11, Option.map_some, Option.some.injEq, Value.tuple.injEq, sgV, sgF, fitV, fitF, ok_iff]
    repeat' first | apply And.intro | intro _
    all_goals (try simp_all)
    all_goals (try (intro hh; omega))
    all_goals (try (refine ⟨?_, ?_⟩ <;> (repeat' split) <;> first | rfl | omega))
  · refine contract (η := { i := fun n => if n = 0 then k else if n = 1 then a else b, s := fun _ => ⟨([124] : List UInt8).toArray⟩, fi := kF, fb := kG }) (plain_of (by kernel_rfl)) (by kernel_rfl) (sum2_ok _ rfl rfl) (n := 60) (args := [.str (.lit [124]), .int .i64 (.var 0), .int .i64 (.var 1), .int .i64 (.var 2)]) (args' := [.string ⟨([124] : List UInt8).toArray⟩, .int .i64 k, .int .i64 a, .int .i64 b]) (.cons _ _ _ _ (.str _) (.cons _ _ _ _ (.int _ _) (.cons _ _ _ _ (.int _ _) (.cons _ _ _ _ (.int _ _) .nil)))) facts_none ?_ W
    rw [rdo6_eq]
    rw [show sgC ⟨([124] : List UInt8).toArray⟩ = 6 from by simp [sgC]]
    simp only [rdo6T, T.gives, V.val, V.vals, B.prop, E.den, propI, kF10, kF11, kF12, kF13, kG10, kG11, Option.map_some, Option.some.injEq, Value.tuple.injEq, sgV, sgF, fitV, fitF, ok_iff]
    repeat' first | apply And.intro | intro _
    all_goals (try simp_all)
    all_goals (try (intro hh; omega))
    all_goals (try (refine ⟨?_, ?_⟩ <;> (repeat' split) <;> first | rfl | omega))
  · refine contract (η := { i := fun n => if n = 0 then k else if n = 1 then a else b, s := fun _ => ⟨([94] : List UInt8).toArray⟩, fi := kF, fb := kG }) (plain_of (by kernel_rfl)) (by kernel_rfl) (sum2_ok _ rfl rfl) (n := 60) (args := [.str (.lit [94]), .int .i64 (.var 0), .int .i64 (.var 1), .int .i64 (.var 2)]) (args' := [.string ⟨([94] : List UInt8).toArray⟩, .int .i64 k, .int .i64 a, .int .i64 b]) (.cons _ _ _ _ (.str _) (.cons _ _ _ _ (.int _ _) (.cons _ _ _ _ (.int _ _) (.cons _ _ _ _ (.int _ _) .nil)))) facts_none ?_ W
    rw [rdo7_eq]
    rw [show sgC ⟨([94] : List UInt8).toArray⟩ = 7 from by simp [sgC]]
    simp only [rdo7T, T.gives, V.val, V.vals, B.prop, E.den, propI, kF10, kF11, kF12, kF13, kG10, kG11, Option.map_some, Option.some.injEq, Value.tuple.injEq, sgV, sgF, fitV, fitF, ok_iff]
    repeat' first | apply And.intro | intro _
    all_goals (try simp_all)
    all_goals (try (intro hh; omega))
    all_goals (try (refine ⟨?_, ?_⟩ <;> (repeat' split) <;> first | rfl | omega))
  · refine contract (η := { i := fun n => if n = 0 then k else if n = 1 then a else b, s := fun _ => ⟨([60, 60] : List UInt8).toArray⟩, fi := kF, fb := kG }) (plain_of (by kernel_rfl)) (by kernel_rfl) (sum2_ok _ rfl rfl) (n := 60) (args := [.str (.lit [60, 60]), .int .i64 (.var 0), .int .i64 (.var 1), .int .i64 (.var 2)]) (args' := [.string ⟨([60, 60] : List UInt8).toArray⟩, .int .i64 k, .int .i64 a, .int .i64 b]) (.cons _ _ _ _ (.str _) (.cons _ _ _ _ (.int _ _) (.cons _ _ _ _ (.int _ _) (.cons _ _ _ _ (.int _ _) .nil)))) facts_none ?_ W
    rw [rdo8_eq]
    rw [show sgC ⟨([60, 60] : List UInt8).toArray⟩ = 8 from by simp [sgC]]
    simp only [rdo8T, T.gives, V.val, V.vals, B.prop, E.den, propI, kF10, kF11, kF12, kF13, kG10, kG11, Option.map_some, Option.some.injEq, Value.tuple.injEq, sgV, sgF, fitV, fitF, ok_iff]
    repeat' first | apply And.intro | intro _
    all_goals (try have hk := kB_le k)
    all_goals (try have hu : 0 ≤ b ∧ b < kB k → IntKind.u64.wrap b = b := fun h => u64_id b (by omega))
    all_goals (try have hw : 0 ≤ b ∧ b < kB k → IntKind.i64.wrap (2 ^ shN .i64 b) = 2 ^ shN .i64 b := fun h => wrap_pow h.1 h.2)
    all_goals (try have hn : 0 ≤ b ∧ b < kB k → ¬ (2 : Int) ^ shN .i64 b = 0 := fun h => pow_ne h.1 h.2)
    all_goals (try simp_all)
    all_goals (try (intro hh; omega))
    all_goals (try (exfalso; omega))
    all_goals (try (rw [if_neg (by omega), if_neg (by omega), if_neg (by omega), if_neg (by omega)]))
    all_goals (try exact ⟨rfl, rfl⟩)
    all_goals (try (refine ⟨shr_eq _ _ (pow_bound b (by omega)) (by have := lo_hi k; omega), rfl⟩))
    all_goals (try (refine ⟨?_, ?_⟩ <;> (repeat' split) <;> first | rfl | omega))
  · refine contract (η := { i := fun n => if n = 0 then k else if n = 1 then a else b, s := fun _ => ⟨([62, 62] : List UInt8).toArray⟩, fi := kF, fb := kG }) (plain_of (by kernel_rfl)) (by kernel_rfl) (sum2_ok _ rfl rfl) (n := 60) (args := [.str (.lit [62, 62]), .int .i64 (.var 0), .int .i64 (.var 1), .int .i64 (.var 2)]) (args' := [.string ⟨([62, 62] : List UInt8).toArray⟩, .int .i64 k, .int .i64 a, .int .i64 b]) (.cons _ _ _ _ (.str _) (.cons _ _ _ _ (.int _ _) (.cons _ _ _ _ (.int _ _) (.cons _ _ _ _ (.int _ _) .nil)))) facts_none ?_ W
    rw [rdo9_eq]
    rw [show sgC ⟨([62, 62] : List UInt8).toArray⟩ = 9 from by simp [sgC]]
    simp only [rdo9T, T.gives, V.val, V.vals, B.prop, E.den, propI, kF10, kF11, kF12, kF13, kG10, kG11, Option.map_some, Option.some.injEq, Value.tuple.injEq, sgV, sgF, fitV, fitF, ok_iff]
    repeat' first | apply And.intro | intro _
    all_goals (try have hk := kB_le k)
    all_goals (try have hu : 0 ≤ b ∧ b < kB k → IntKind.u64.wrap b = b := fun h => u64_id b (by omega))
    all_goals (try have hw : 0 ≤ b ∧ b < kB k → IntKind.i64.wrap (2 ^ shN .i64 b) = 2 ^ shN .i64 b := fun h => wrap_pow h.1 h.2)
    all_goals (try have hn : 0 ≤ b ∧ b < kB k → ¬ (2 : Int) ^ shN .i64 b = 0 := fun h => pow_ne h.1 h.2)
    all_goals (try simp_all)
    all_goals (try (intro hh; omega))
    all_goals (try (exfalso; omega))
    all_goals (try (rw [if_neg (by omega), if_neg (by omega), if_neg (by omega), if_neg (by omega)]))
    all_goals (try exact ⟨rfl, rfl⟩)
    all_goals (try (refine ⟨shr_eq _ _ (pow_bound b (by omega)) (by have := lo_hi k; omega), rfl⟩))
    all_goals (try (refine ⟨?_, ?_⟩ <;> (repeat' split) <;> first | rfl | omega))
  · refine contract (η := { i := fun n => if n = 0 then k else if n = 1 then a else b, s := fun _ => s, fi := kF, fb := kG }) (plain_of (by kernel_rfl)) (by kernel_rfl) (sum2_ok _ rfl rfl) (n := 60) (args := [.str (.var 0), .int .i64 (.var 0), .int .i64 (.var 1), .int .i64 (.var 2)]) (args' := [.string s, .int .i64 k, .int .i64 a, .int .i64 b]) (.cons _ _ _ _ (.str _) (.cons _ _ _ _ (.int _ _) (.cons _ _ _ _ (.int _ _) (.cons _ _ _ _ (.int _ _) .nil)))) (fun p hp => ho p hp _ rfl) ?_ W
    rw [rdo10_eq]
    rw [hc]
    simp only [rdo10T, T.gives, V.val, V.vals, B.prop, E.den, propI, kF10, kF11, kF12, kF13, kG10, kG11, Option.map_some, Option.some.injEq, Value.tuple.injEq, sgV, sgF, fitV, fitF, ok_iff]
    repeat' first | apply And.intro | intro _
    all_goals (try simp_all)
    all_goals (try (intro hh; omega))
    all_goals (try (refine ⟨?_, ?_⟩ <;> (repeat' split) <;> first | rfl | omega))
end Go.Proofs.Ytfkhlmmapopacaa.Sx
