/- LowFrames: all of its ways end in true. -/
import Derived.Test.YtghiknpnhfiloaaLf0
import Derived.Test.YtghiknpnhfiloaaLf1
import Derived.Test.YtghiknpnhfiloaaLf2
import Derived.Test.YtghiknpnhfiloaaLf3
import Derived.Test.YtghiknpnhfiloaaLf4
import Derived.Test.YtghiknpnhfiloaaLf5
import Derived.Test.YtghiknpnhfiloaaLf6
import Derived.Test.YtghiknpnhfiloaaLf7
import Derived.Test.YtghiknpnhfiloaaLf8
import Derived.Test.YtghiknpnhfiloaaLf9
import Derived.Test.YtghiknpnhfiloaaLf10
import Derived.Test.YtghiknpnhfiloaaLf11
import Derived.Test.YtghiknpnhfiloaaLf12
import Derived.Test.YtghiknpnhfiloaaLf13
import Derived.Test.YtghiknpnhfiloaaLf14
import Derived.Test.YtghiknpnhfiloaaLf15
import Derived.Test.YtghiknpnhfiloaaSzArith
namespace Go.Proofs.Ytghiknpnhfiloaa.Sx
open Go Go.RowKit
set_option linter.unusedVariables false
set_option linter.unusedSimpArgs false
theorem lf_all0 (n : Nat) (hn : n < 16) : LfP n 0 := by
  match n, hn with
  | 0, _ => exact lf0_0
  | 1, _ => exact lf1_0
  | 2, _ => exact lf2_0
  | 3, _ => exact lf3_0
  | 4, _ => exact lf4_0
  | 5, _ => exact lf5_0
  | 6, _ => exact lf6_0
  | 7, _ => exact lf7_0
  | 8, _ => exact lf8_0
  | 9, _ => exact lf9_0
  | 10, _ => exact lf10_0
  | 11, _ => exact lf11_0
  | 12, _ => exact lf12_0
  | 13, _ => exact lf13_0
  | 14, _ => exact lf14_0
  | 15, _ => exact lf15_0
  | n + 16, h => exact absurd h (by omega)
theorem lf_all1 (n : Nat) (hn : n < 16) : LfP n 1 := by
  match n, hn with
  | 0, _ => exact lf0_1
  | 1, _ => exact lf1_1
  | 2, _ => exact lf2_1
  | 3, _ => exact lf3_1
  | 4, _ => exact lf4_1
  | 5, _ => exact lf5_1
  | 6, _ => exact lf6_1
  | 7, _ => exact lf7_1
  | 8, _ => exact lf8_1
  | 9, _ => exact lf9_1
  | 10, _ => exact lf10_1
  | 11, _ => exact lf11_1
  | 12, _ => exact lf12_1
  | 13, _ => exact lf13_1
  | 14, _ => exact lf14_1
  | 15, _ => exact lf15_1
  | n + 16, h => exact absurd h (by omega)
theorem lf_all2 (n : Nat) (hn : n < 16) : LfP n 2 := by
  match n, hn with
  | 0, _ => exact lf0_2
  | 1, _ => exact lf1_2
  | 2, _ => exact lf2_2
  | 3, _ => exact lf3_2
  | 4, _ => exact lf4_2
  | 5, _ => exact lf5_2
  | 6, _ => exact lf6_2
  | 7, _ => exact lf7_2
  | 8, _ => exact lf8_2
  | 9, _ => exact lf9_2
  | 10, _ => exact lf10_2
  | 11, _ => exact lf11_2
  | 12, _ => exact lf12_2
  | 13, _ => exact lf13_2
  | 14, _ => exact lf14_2
  | 15, _ => exact lf15_2
  | n + 16, h => exact absurd h (by omega)
theorem lf_all3 (n : Nat) (hn : n < 16) : LfP n 3 := by
  match n, hn with
  | 0, _ => exact lf0_3
  | 1, _ => exact lf1_3
  | 2, _ => exact lf2_3
  | 3, _ => exact lf3_3
  | 4, _ => exact lf4_3
  | 5, _ => exact lf5_3
  | 6, _ => exact lf6_3
  | 7, _ => exact lf7_3
  | 8, _ => exact lf8_3
  | 9, _ => exact lf9_3
  | 10, _ => exact lf10_3
  | 11, _ => exact lf11_3
  | 12, _ => exact lf12_3
  | 13, _ => exact lf13_3
  | 14, _ => exact lf14_3
  | 15, _ => exact lf15_3
  | n + 16, h => exact absurd h (by omega)
theorem lf_all4 (n : Nat) (hn : n < 16) : LfP n 4 := by
  match n, hn with
  | 0, _ => exact lf0_4
  | 1, _ => exact lf1_4
  | 2, _ => exact lf2_4
  | 3, _ => exact lf3_4
  | 4, _ => exact lf4_4
  | 5, _ => exact lf5_4
  | 6, _ => exact lf6_4
  | 7, _ => exact lf7_4
  | 8, _ => exact lf8_4
  | 9, _ => exact lf9_4
  | 10, _ => exact lf10_4
  | 11, _ => exact lf11_4
  | 12, _ => exact lf12_4
  | 13, _ => exact lf13_4
  | 14, _ => exact lf14_4
  | 15, _ => exact lf15_4
  | n + 16, h => exact absurd h (by omega)
theorem lf_all5 (n : Nat) (hn : n < 16) : LfP n 5 := by
  match n, hn with
  | 0, _ => exact lf0_5
  | 1, _ => exact lf1_5
  | 2, _ => exact lf2_5
  | 3, _ => exact lf3_5
  | 4, _ => exact lf4_5
  | 5, _ => exact lf5_5
  | 6, _ => exact lf6_5
  | 7, _ => exact lf7_5
  | 8, _ => exact lf8_5
  | 9, _ => exact lf9_5
  | 10, _ => exact lf10_5
  | 11, _ => exact lf11_5
  | 12, _ => exact lf12_5
  | 13, _ => exact lf13_5
  | 14, _ => exact lf14_5
  | 15, _ => exact lf15_5
  | n + 16, h => exact absurd h (by omega)
theorem lf_all6 (n : Nat) (hn : n < 16) : LfP n 6 := by
  match n, hn with
  | 0, _ => exact lf0_6
  | 1, _ => exact lf1_6
  | 2, _ => exact lf2_6
  | 3, _ => exact lf3_6
  | 4, _ => exact lf4_6
  | 5, _ => exact lf5_6
  | 6, _ => exact lf6_6
  | 7, _ => exact lf7_6
  | 8, _ => exact lf8_6
  | 9, _ => exact lf9_6
  | 10, _ => exact lf10_6
  | 11, _ => exact lf11_6
  | 12, _ => exact lf12_6
  | 13, _ => exact lf13_6
  | 14, _ => exact lf14_6
  | 15, _ => exact lf15_6
  | n + 16, h => exact absurd h (by omega)
theorem lf_all7 (n : Nat) (hn : n < 16) : LfP n 7 := by
  match n, hn with
  | 0, _ => exact lf0_7
  | 1, _ => exact lf1_7
  | 2, _ => exact lf2_7
  | 3, _ => exact lf3_7
  | 4, _ => exact lf4_7
  | 5, _ => exact lf5_7
  | 6, _ => exact lf6_7
  | 7, _ => exact lf7_7
  | 8, _ => exact lf8_7
  | 9, _ => exact lf9_7
  | 10, _ => exact lf10_7
  | 11, _ => exact lf11_7
  | 12, _ => exact lf12_7
  | 13, _ => exact lf13_7
  | 14, _ => exact lf14_7
  | 15, _ => exact lf15_7
  | n + 16, h => exact absurd h (by omega)
theorem lf_all8 (n : Nat) (hn : n < 16) : LfP n 8 := by
  match n, hn with
  | 0, _ => exact lf0_8
  | 1, _ => exact lf1_8
  | 2, _ => exact lf2_8
  | 3, _ => exact lf3_8
  | 4, _ => exact lf4_8
  | 5, _ => exact lf5_8
  | 6, _ => exact lf6_8
  | 7, _ => exact lf7_8
  | 8, _ => exact lf8_8
  | 9, _ => exact lf9_8
  | 10, _ => exact lf10_8
  | 11, _ => exact lf11_8
  | 12, _ => exact lf12_8
  | 13, _ => exact lf13_8
  | 14, _ => exact lf14_8
  | 15, _ => exact lf15_8
  | n + 16, h => exact absurd h (by omega)
theorem lf_all9 (n : Nat) (hn : n < 16) : LfP n 9 := by
  match n, hn with
  | 0, _ => exact lf0_9
  | 1, _ => exact lf1_9
  | 2, _ => exact lf2_9
  | 3, _ => exact lf3_9
  | 4, _ => exact lf4_9
  | 5, _ => exact lf5_9
  | 6, _ => exact lf6_9
  | 7, _ => exact lf7_9
  | 8, _ => exact lf8_9
  | 9, _ => exact lf9_9
  | 10, _ => exact lf10_9
  | 11, _ => exact lf11_9
  | 12, _ => exact lf12_9
  | 13, _ => exact lf13_9
  | 14, _ => exact lf14_9
  | 15, _ => exact lf15_9
  | n + 16, h => exact absurd h (by omega)
theorem lf_all10 (n : Nat) (hn : n < 16) : LfP n 10 := by
  match n, hn with
  | 0, _ => exact lf0_10
  | 1, _ => exact lf1_10
  | 2, _ => exact lf2_10
  | 3, _ => exact lf3_10
  | 4, _ => exact lf4_10
  | 5, _ => exact lf5_10
  | 6, _ => exact lf6_10
  | 7, _ => exact lf7_10
  | 8, _ => exact lf8_10
  | 9, _ => exact lf9_10
  | 10, _ => exact lf10_10
  | 11, _ => exact lf11_10
  | 12, _ => exact lf12_10
  | 13, _ => exact lf13_10
  | 14, _ => exact lf14_10
  | 15, _ => exact lf15_10
  | n + 16, h => exact absurd h (by omega)
theorem lf_all11 (n : Nat) (hn : n < 16) : LfP n 11 := by
  match n, hn with
  | 0, _ => exact lf0_11
  | 1, _ => exact lf1_11
  | 2, _ => exact lf2_11
  | 3, _ => exact lf3_11
  | 4, _ => exact lf4_11
  | 5, _ => exact lf5_11
  | 6, _ => exact lf6_11
  | 7, _ => exact lf7_11
  | 8, _ => exact lf8_11
  | 9, _ => exact lf9_11
  | 10, _ => exact lf10_11
  | 11, _ => exact lf11_11
  | 12, _ => exact lf12_11
  | 13, _ => exact lf13_11
  | 14, _ => exact lf14_11
  | 15, _ => exact lf15_11
  | n + 16, h => exact absurd h (by omega)
theorem lf_all12 (n : Nat) (hn : n < 16) : LfP n 12 := by
  match n, hn with
  | 0, _ => exact lf0_12
  | 1, _ => exact lf1_12
  | 2, _ => exact lf2_12
  | 3, _ => exact lf3_12
  | 4, _ => exact lf4_12
  | 5, _ => exact lf5_12
  | 6, _ => exact lf6_12
  | 7, _ => exact lf7_12
  | 8, _ => exact lf8_12
  | 9, _ => exact lf9_12
  | 10, _ => exact lf10_12
  | 11, _ => exact lf11_12
  | 12, _ => exact lf12_12
  | 13, _ => exact lf13_12
  | 14, _ => exact lf14_12
  | 15, _ => exact lf15_12
  | n + 16, h => exact absurd h (by omega)
theorem lf_all13 (n : Nat) (hn : n < 16) : LfP n 13 := by
  match n, hn with
  | 0, _ => exact lf0_13
  | 1, _ => exact lf1_13
  | 2, _ => exact lf2_13
  | 3, _ => exact lf3_13
  | 4, _ => exact lf4_13
  | 5, _ => exact lf5_13
  | 6, _ => exact lf6_13
  | 7, _ => exact lf7_13
  | 8, _ => exact lf8_13
  | 9, _ => exact lf9_13
  | 10, _ => exact lf10_13
  | 11, _ => exact lf11_13
  | 12, _ => exact lf12_13
  | 13, _ => exact lf13_13
  | 14, _ => exact lf14_13
  | 15, _ => exact lf15_13
  | n + 16, h => exact absurd h (by omega)
theorem lf_all14 (n : Nat) (hn : n < 16) : LfP n 14 := by
  match n, hn with
  | 0, _ => exact lf0_14
  | 1, _ => exact lf1_14
  | 2, _ => exact lf2_14
  | 3, _ => exact lf3_14
  | 4, _ => exact lf4_14
  | 5, _ => exact lf5_14
  | 6, _ => exact lf6_14
  | 7, _ => exact lf7_14
  | 8, _ => exact lf8_14
  | 9, _ => exact lf9_14
  | 10, _ => exact lf10_14
  | 11, _ => exact lf11_14
  | 12, _ => exact lf12_14
  | 13, _ => exact lf13_14
  | 14, _ => exact lf14_14
  | 15, _ => exact lf15_14
  | n + 16, h => exact absurd h (by omega)
theorem lf_all15 (n : Nat) (hn : n < 16) : LfP n 15 := by
  match n, hn with
  | 0, _ => exact lf0_15
  | 1, _ => exact lf1_15
  | 2, _ => exact lf2_15
  | 3, _ => exact lf3_15
  | 4, _ => exact lf4_15
  | 5, _ => exact lf5_15
  | 6, _ => exact lf6_15
  | 7, _ => exact lf7_15
  | 8, _ => exact lf8_15
  | 9, _ => exact lf9_15
  | 10, _ => exact lf10_15
  | 11, _ => exact lf11_15
  | 12, _ => exact lf12_15
  | 13, _ => exact lf13_15
  | 14, _ => exact lf14_15
  | 15, _ => exact lf15_15
  | n + 16, h => exact absurd h (by omega)
theorem lf_all16 (n : Nat) (hn : n < 16) : LfP n 16 := by
  match n, hn with
  | 0, _ => exact lf0_16
  | 1, _ => exact lf1_16
  | 2, _ => exact lf2_16
  | 3, _ => exact lf3_16
  | 4, _ => exact lf4_16
  | 5, _ => exact lf5_16
  | 6, _ => exact lf6_16
  | 7, _ => exact lf7_16
  | 8, _ => exact lf8_16
  | 9, _ => exact lf9_16
  | 10, _ => exact lf10_16
  | 11, _ => exact lf11_16
  | 12, _ => exact lf12_16
  | 13, _ => exact lf13_16
  | 14, _ => exact lf14_16
  | 15, _ => exact lf15_16
  | n + 16, h => exact absurd h (by omega)
theorem lf_all17 (n : Nat) (hn : n < 16) : LfP n 17 := by
  match n, hn with
  | 0, _ => exact lf0_17
  | 1, _ => exact lf1_17
  | 2, _ => exact lf2_17
  | 3, _ => exact lf3_17
  | 4, _ => exact lf4_17
  | 5, _ => exact lf5_17
  | 6, _ => exact lf6_17
  | 7, _ => exact lf7_17
  | 8, _ => exact lf8_17
  | 9, _ => exact lf9_17
  | 10, _ => exact lf10_17
  | 11, _ => exact lf11_17
  | 12, _ => exact lf12_17
  | 13, _ => exact lf13_17
  | 14, _ => exact lf14_17
  | 15, _ => exact lf15_17
  | n + 16, h => exact absurd h (by omega)
theorem lf_all18 (n : Nat) (hn : n < 16) : LfP n 18 := by
  match n, hn with
  | 0, _ => exact lf0_18
  | 1, _ => exact lf1_18
  | 2, _ => exact lf2_18
  | 3, _ => exact lf3_18
  | 4, _ => exact lf4_18
  | 5, _ => exact lf5_18
  | 6, _ => exact lf6_18
  | 7, _ => exact lf7_18
  | 8, _ => exact lf8_18
  | 9, _ => exact lf9_18
  | 10, _ => exact lf10_18
  | 11, _ => exact lf11_18
  | 12, _ => exact lf12_18
  | 13, _ => exact lf13_18
  | 14, _ => exact lf14_18
  | 15, _ => exact lf15_18
  | n + 16, h => exact absurd h (by omega)
theorem lf_all19 (n : Nat) (hn : n < 16) : LfP n 19 := by
  match n, hn with
  | 0, _ => exact lf0_19
  | 1, _ => exact lf1_19
  | 2, _ => exact lf2_19
  | 3, _ => exact lf3_19
  | 4, _ => exact lf4_19
  | 5, _ => exact lf5_19
  | 6, _ => exact lf6_19
  | 7, _ => exact lf7_19
  | 8, _ => exact lf8_19
  | 9, _ => exact lf9_19
  | 10, _ => exact lf10_19
  | 11, _ => exact lf11_19
  | 12, _ => exact lf12_19
  | 13, _ => exact lf13_19
  | 14, _ => exact lf14_19
  | 15, _ => exact lf15_19
  | n + 16, h => exact absurd h (by omega)
theorem lf_all20 (n : Nat) (hn : n < 16) : LfP n 20 := by
  match n, hn with
  | 0, _ => exact lf0_20
  | 1, _ => exact lf1_20
  | 2, _ => exact lf2_20
  | 3, _ => exact lf3_20
  | 4, _ => exact lf4_20
  | 5, _ => exact lf5_20
  | 6, _ => exact lf6_20
  | 7, _ => exact lf7_20
  | 8, _ => exact lf8_20
  | 9, _ => exact lf9_20
  | 10, _ => exact lf10_20
  | 11, _ => exact lf11_20
  | 12, _ => exact lf12_20
  | 13, _ => exact lf13_20
  | 14, _ => exact lf14_20
  | 15, _ => exact lf15_20
  | n + 16, h => exact absurd h (by omega)
theorem lf_all21 (n : Nat) (hn : n < 16) : LfP n 21 := by
  match n, hn with
  | 0, _ => exact lf0_21
  | 1, _ => exact lf1_21
  | 2, _ => exact lf2_21
  | 3, _ => exact lf3_21
  | 4, _ => exact lf4_21
  | 5, _ => exact lf5_21
  | 6, _ => exact lf6_21
  | 7, _ => exact lf7_21
  | 8, _ => exact lf8_21
  | 9, _ => exact lf9_21
  | 10, _ => exact lf10_21
  | 11, _ => exact lf11_21
  | 12, _ => exact lf12_21
  | 13, _ => exact lf13_21
  | 14, _ => exact lf14_21
  | 15, _ => exact lf15_21
  | n + 16, h => exact absurd h (by omega)
theorem lf_all22 (n : Nat) (hn : n < 16) : LfP n 22 := by
  match n, hn with
  | 0, _ => exact lf0_22
  | 1, _ => exact lf1_22
  | 2, _ => exact lf2_22
  | 3, _ => exact lf3_22
  | 4, _ => exact lf4_22
  | 5, _ => exact lf5_22
  | 6, _ => exact lf6_22
  | 7, _ => exact lf7_22
  | 8, _ => exact lf8_22
  | 9, _ => exact lf9_22
  | 10, _ => exact lf10_22
  | 11, _ => exact lf11_22
  | 12, _ => exact lf12_22
  | 13, _ => exact lf13_22
  | 14, _ => exact lf14_22
  | 15, _ => exact lf15_22
  | n + 16, h => exact absurd h (by omega)
theorem lf_all23 (n : Nat) (hn : n < 16) : LfP n 23 := by
  match n, hn with
  | 0, _ => exact lf0_23
  | 1, _ => exact lf1_23
  | 2, _ => exact lf2_23
  | 3, _ => exact lf3_23
  | 4, _ => exact lf4_23
  | 5, _ => exact lf5_23
  | 6, _ => exact lf6_23
  | 7, _ => exact lf7_23
  | 8, _ => exact lf8_23
  | 9, _ => exact lf9_23
  | 10, _ => exact lf10_23
  | 11, _ => exact lf11_23
  | 12, _ => exact lf12_23
  | 13, _ => exact lf13_23
  | 14, _ => exact lf14_23
  | 15, _ => exact lf15_23
  | n + 16, h => exact absurd h (by omega)
theorem lf_all24 (n : Nat) (hn : n < 16) : LfP n 24 := by
  match n, hn with
  | 0, _ => exact lf0_24
  | 1, _ => exact lf1_24
  | 2, _ => exact lf2_24
  | 3, _ => exact lf3_24
  | 4, _ => exact lf4_24
  | 5, _ => exact lf5_24
  | 6, _ => exact lf6_24
  | 7, _ => exact lf7_24
  | 8, _ => exact lf8_24
  | 9, _ => exact lf9_24
  | 10, _ => exact lf10_24
  | 11, _ => exact lf11_24
  | 12, _ => exact lf12_24
  | 13, _ => exact lf13_24
  | 14, _ => exact lf14_24
  | 15, _ => exact lf15_24
  | n + 16, h => exact absurd h (by omega)
theorem lf_all25 (n : Nat) (hn : n < 16) : LfP n 25 := by
  match n, hn with
  | 0, _ => exact lf0_25
  | 1, _ => exact lf1_25
  | 2, _ => exact lf2_25
  | 3, _ => exact lf3_25
  | 4, _ => exact lf4_25
  | 5, _ => exact lf5_25
  | 6, _ => exact lf6_25
  | 7, _ => exact lf7_25
  | 8, _ => exact lf8_25
  | 9, _ => exact lf9_25
  | 10, _ => exact lf10_25
  | 11, _ => exact lf11_25
  | 12, _ => exact lf12_25
  | 13, _ => exact lf13_25
  | 14, _ => exact lf14_25
  | 15, _ => exact lf15_25
  | n + 16, h => exact absurd h (by omega)
theorem lf_all26 (n : Nat) (hn : n < 16) : LfP n 26 := by
  match n, hn with
  | 0, _ => exact lf0_26
  | 1, _ => exact lf1_26
  | 2, _ => exact lf2_26
  | 3, _ => exact lf3_26
  | 4, _ => exact lf4_26
  | 5, _ => exact lf5_26
  | 6, _ => exact lf6_26
  | 7, _ => exact lf7_26
  | 8, _ => exact lf8_26
  | 9, _ => exact lf9_26
  | 10, _ => exact lf10_26
  | 11, _ => exact lf11_26
  | 12, _ => exact lf12_26
  | 13, _ => exact lf13_26
  | 14, _ => exact lf14_26
  | 15, _ => exact lf15_26
  | n + 16, h => exact absurd h (by omega)
theorem lf_all27 (n : Nat) (hn : n < 16) : LfP n 27 := by
  match n, hn with
  | 0, _ => exact lf0_27
  | 1, _ => exact lf1_27
  | 2, _ => exact lf2_27
  | 3, _ => exact lf3_27
  | 4, _ => exact lf4_27
  | 5, _ => exact lf5_27
  | 6, _ => exact lf6_27
  | 7, _ => exact lf7_27
  | 8, _ => exact lf8_27
  | 9, _ => exact lf9_27
  | 10, _ => exact lf10_27
  | 11, _ => exact lf11_27
  | 12, _ => exact lf12_27
  | 13, _ => exact lf13_27
  | 14, _ => exact lf14_27
  | 15, _ => exact lf15_27
  | n + 16, h => exact absurd h (by omega)
theorem lf_all28 (n : Nat) (hn : n < 16) : LfP n 28 := by
  match n, hn with
  | 0, _ => exact lf0_28
  | 1, _ => exact lf1_28
  | 2, _ => exact lf2_28
  | 3, _ => exact lf3_28
  | 4, _ => exact lf4_28
  | 5, _ => exact lf5_28
  | 6, _ => exact lf6_28
  | 7, _ => exact lf7_28
  | 8, _ => exact lf8_28
  | 9, _ => exact lf9_28
  | 10, _ => exact lf10_28
  | 11, _ => exact lf11_28
  | 12, _ => exact lf12_28
  | 13, _ => exact lf13_28
  | 14, _ => exact lf14_28
  | 15, _ => exact lf15_28
  | n + 16, h => exact absurd h (by omega)
theorem lf_all29 (n : Nat) (hn : n < 16) : LfP n 29 := by
  match n, hn with
  | 0, _ => exact lf0_29
  | 1, _ => exact lf1_29
  | 2, _ => exact lf2_29
  | 3, _ => exact lf3_29
  | 4, _ => exact lf4_29
  | 5, _ => exact lf5_29
  | 6, _ => exact lf6_29
  | 7, _ => exact lf7_29
  | 8, _ => exact lf8_29
  | 9, _ => exact lf9_29
  | 10, _ => exact lf10_29
  | 11, _ => exact lf11_29
  | 12, _ => exact lf12_29
  | 13, _ => exact lf13_29
  | 14, _ => exact lf14_29
  | 15, _ => exact lf15_29
  | n + 16, h => exact absurd h (by omega)
theorem lf_all30 (n : Nat) (hn : n < 16) : LfP n 30 := by
  match n, hn with
  | 0, _ => exact lf0_30
  | 1, _ => exact lf1_30
  | 2, _ => exact lf2_30
  | 3, _ => exact lf3_30
  | 4, _ => exact lf4_30
  | 5, _ => exact lf5_30
  | 6, _ => exact lf6_30
  | 7, _ => exact lf7_30
  | 8, _ => exact lf8_30
  | 9, _ => exact lf9_30
  | 10, _ => exact lf10_30
  | 11, _ => exact lf11_30
  | 12, _ => exact lf12_30
  | 13, _ => exact lf13_30
  | 14, _ => exact lf14_30
  | 15, _ => exact lf15_30
  | n + 16, h => exact absurd h (by omega)
theorem lf_all31 (n : Nat) (hn : n < 16) : LfP n 31 := by
  match n, hn with
  | 0, _ => exact lf0_31
  | 1, _ => exact lf1_31
  | 2, _ => exact lf2_31
  | 3, _ => exact lf3_31
  | 4, _ => exact lf4_31
  | 5, _ => exact lf5_31
  | 6, _ => exact lf6_31
  | 7, _ => exact lf7_31
  | 8, _ => exact lf8_31
  | 9, _ => exact lf9_31
  | 10, _ => exact lf10_31
  | 11, _ => exact lf11_31
  | 12, _ => exact lf12_31
  | 13, _ => exact lf13_31
  | 14, _ => exact lf14_31
  | 15, _ => exact lf15_31
  | n + 16, h => exact absurd h (by omega)
theorem lf_all (n m : Nat) (hn : n < 16) (hm : m < 32) : LfP n m := by
  match m, hm with
  | 0, _ => exact lf_all0 n hn
  | 1, _ => exact lf_all1 n hn
  | 2, _ => exact lf_all2 n hn
  | 3, _ => exact lf_all3 n hn
  | 4, _ => exact lf_all4 n hn
  | 5, _ => exact lf_all5 n hn
  | 6, _ => exact lf_all6 n hn
  | 7, _ => exact lf_all7 n hn
  | 8, _ => exact lf_all8 n hn
  | 9, _ => exact lf_all9 n hn
  | 10, _ => exact lf_all10 n hn
  | 11, _ => exact lf_all11 n hn
  | 12, _ => exact lf_all12 n hn
  | 13, _ => exact lf_all13 n hn
  | 14, _ => exact lf_all14 n hn
  | 15, _ => exact lf_all15 n hn
  | 16, _ => exact lf_all16 n hn
  | 17, _ => exact lf_all17 n hn
  | 18, _ => exact lf_all18 n hn
  | 19, _ => exact lf_all19 n hn
  | 20, _ => exact lf_all20 n hn
  | 21, _ => exact lf_all21 n hn
  | 22, _ => exact lf_all22 n hn
  | 23, _ => exact lf_all23 n hn
  | 24, _ => exact lf_all24 n hn
  | 25, _ => exact lf_all25 n hn
  | 26, _ => exact lf_all26 n hn
  | 27, _ => exact lf_all27 n hn
  | 28, _ => exact lf_all28 n hn
  | 29, _ => exact lf_all29 n hn
  | 30, _ => exact lf_all30 n hn
  | 31, _ => exact lf_all31 n hn
  | m + 32, h => exact absurd h (by omega)
theorem lf_and15 (a : Int) : ∃ k : Nat, k < 16 ∧ bitsI .and .i64 a 15 = k := by
  have h : bitsI .and .i64 a 15 = a % 16 := bits_and_mask a 4 (by omega)
  exact ⟨(a % 16).toNat, by omega, by rw [h]; omega⟩
theorem lf_and31 (a : Int) : ∃ k : Nat, k < 32 ∧ bitsI .and .i64 a 31 = k := by
  have h : bitsI .and .i64 a 31 = a % 32 := bits_and_mask a 5 (by omega)
  exact ⟨(a % 32).toNat, by omega, by rw [h]; omega⟩
theorem lf_good (η : Env) (n m : Nat) (hn : n < 16) (hm : m < 32) : (lfT n m).good η := isTrue_ok (lf_all n m hn hm).out
theorem lf_yes0 (η : Env) (n m : Nat) (hn : n < 16) (hm : m < 32) : (lfT n m).yes η := T.good_yes (lf_good η n m hn hm)
theorem lf_yes (η : Env) (n m : Nat) (hn : n < 16) (hm : m < 32) : (callTop Try.prog noSum 4000 6 [.int .i64 (.var 0), .int .i64 (.var 1)] (lfF n m)).yes η := (lf_eq n m) ▸ lf_yes0 η n m hn hm
theorem lf_call (η : Env) (a0 a1 : Int) (n m : Nat) (h0 : η.i 0 = a0) (h1 : η.i 1 = a1) (hf : ∀ p ∈ lfF n m, p.1.den η = p.2) (hy : (callTop Try.prog noSum 4000 6 [.int .i64 (.var 0), .int .i64 (.var 1)] (lfF n m)).yes η) (W : World) :
    Calls Try.prog 6 #[.int .i64 a0, .int .i64 a1] W fun e W' => e = .returned (.bool true) ∧ Below W.heap.size W W' := by
  subst h0 h1
  exact law_ok (η := η) (plain_of (by kernel_rfl)) (by kernel_rfl) (noSum_ok _ _) (.cons _ _ _ _ (.int _ _) (.cons _ _ _ _ (.int _ _) .nil)) hf hy W
theorem frames_walk (a0 a1 : Int) (w0 : (Lit.int .i64 a0).wf = true) (w1 : (Lit.int .i64 a1).wf = true) (W : World) :
    Calls Try.prog 6 #[.int .i64 a0, .int .i64 a1] W fun e W' => e = .returned (.bool true) ∧ Below W.heap.size W W' := by
  obtain ⟨n, hn, hn2⟩ := lf_and15 a0
  obtain ⟨m, hm, hm2⟩ := lf_and31 a1
  refine lf_call { i := fun n => if n = 0 then a0 else a1 } a0 a1 n m rfl rfl ?_ (lf_yes _ n m hn hm) W
  intro p hp
  simp only [lfF, List.mem_cons, List.not_mem_nil, or_false] at hp
  rcases hp with rfl | rfl
  · simp only [B.den, E.den, cmpI]
    show (bitsI .and .i64 a0 15 == (n : Int)) = true
    rw [hn2]; simp
  · simp only [B.den, E.den, cmpI]
    show (bitsI .and .i64 a1 31 == (m : Int)) = true
    rw [hm2]; simp
end Go.Proofs.Ytghiknpnhfiloaa.Sx
