/- Contracts of the reference lexer's plain functions: letter, digit, Word, sign, and of rank. -/
import Derived.Test.YtbobnbndbgpanaaGreatProg
import Derived.Test.YtbobnbndbgpanaaGreatSzPure
namespace Go.Proofs.YtbobnbndbgpanaaGreat.Sx
open Go Go.RowKit
set_option linter.unusedVariables false
set_option linter.unusedSimpArgs false
set_option maxRecDepth 100000
noncomputable section
theorem pu_plans : okFns Tryz.prog (List.range 175) = true := by decide +kernel
def treeLetter : T V := (.node (.cmp .geq (.var 0) (.lit 97)) (.node (.cmp .leq (.var 0) (.lit 122)) (.ret (.bool (.lit true))) (.ret (.bool (.cmp .eql (.var 0) (.lit 95))))) (.node (.cmp .geq (.var 0) (.lit 65)) (.node (.cmp .leq (.var 0) (.lit 90)) (.ret (.bool (.lit true))) (.ret (.bool (.cmp .eql (.var 0) (.lit 95))))) (.ret (.bool (.cmp .eql (.var 0) (.lit 95))))))
theorem treeLetter_ok : callTopF Tryz.prog noSum (List.range 175) 3000 32 [.int .u8 (.var 0)] [] = treeLetter := by kernel_rfl
def treeDigit : T V := (.node (.cmp .geq (.var 0) (.lit 48)) (.ret (.bool (.cmp .leq (.var 0) (.lit 57)))) (.ret (.bool (.lit false))))
theorem treeDigit_ok : callTopF Tryz.prog noSum (List.range 175) 3000 33 [.int .u8 (.var 0)] [] = treeDigit := by kernel_rfl
def treeWord : T V := (.node (.seq (.lit [102, 110]) (.var 0)) (.ret (.bool (.lit true))) (.node (.seq (.lit [115, 116, 114, 117, 99, 116]) (.var 0)) (.ret (.bool (.lit true))) (.node (.seq (.lit [101, 110, 117, 109]) (.var 0)) (.ret (.bool (.lit true))) (.node (.seq (.lit [99, 111, 110, 115, 116]) (.var 0)) (.ret (.bool (.lit true))) (.node (.seq (.lit [108, 101, 116]) (.var 0)) (.ret (.bool (.lit true))) (.node (.seq (.lit [109, 117, 116]) (.var 0)) (.ret (.bool (.lit true))) (.node (.seq (.lit [105, 102]) (.var 0)) (.ret (.bool (.lit true))) (.node (.seq (.lit [101, 108, 115, 101]) (.var 0)) (.ret (.bool (.lit true))) (.node (.seq (.lit [109, 97, 116, 99, 104]) (.var 0)) (.ret (.bool (.lit true))) (.node (.seq (.lit [119, 104, 105, 108, 101]) (.var 0)) (.ret (.bool (.lit true))) (.node (.seq (.lit [108, 111, 111, 112]) (.var 0)) (.ret (.bool (.lit true))) (.node (.seq (.lit [98, 114, 101, 97, 107]) (.var 0)) (.ret (.bool (.lit true))) (.node (.seq (.lit [99, 111, 110, 116, 105, 110, 117, 101]) (.var 0)) (.ret (.bool (.lit true))) (.node (.seq (.lit [114, 101, 116, 117, 114, 110]) (.var 0)) (.ret (.bool (.lit true))) (.node (.seq (.lit [116, 114, 117, 101]) (.var 0)) (.ret (.bool (.lit true))) (.node (.seq (.lit [102, 97, 108, 115, 101]) (.var 0)) (.ret (.bool (.lit true))) (.node (.seq (.lit [97, 115]) (.var 0)) (.ret (.bool (.lit true))) (.ret (.bool (.lit false))))))))))))))))))))
theorem treeWord_ok : callTopF Tryz.prog noSum (List.range 175) 3000 35 [.str (.var 0)] [] = treeWord := by kernel_rfl
def treeRank : T V := (.node (.seq (.var 0) (.lit [124, 124])) (.ret (.int .i64 (.lit 1))) (.node (.seq (.var 0) (.lit [38, 38])) (.ret (.int .i64 (.lit 2))) (.node (.seq (.var 0) (.lit [61, 61])) (.ret (.int .i64 (.lit 3))) (.node (.seq (.var 0) (.lit [33, 61])) (.ret (.int .i64 (.lit 3))) (.node (.seq (.var 0) (.lit [60])) (.ret (.int .i64 (.lit 3))) (.node (.seq (.var 0) (.lit [60, 61])) (.ret (.int .i64 (.lit 3))) (.node (.seq (.var 0) (.lit [62])) (.ret (.int .i64 (.lit 3))) (.node (.seq (.var 0) (.lit [62, 61])) (.ret (.int .i64 (.lit 3))) (.node (.seq (.var 0) (.lit [124])) (.ret (.int .i64 (.lit 4))) (.node (.seq (.var 0) (.lit [94])) (.ret (.int .i64 (.lit 5))) (.node (.seq (.var 0) (.lit [38])) (.ret (.int .i64 (.lit 6))) (.node (.seq (.var 0) (.lit [60, 60])) (.ret (.int .i64 (.lit 7))) (.node (.seq (.var 0) (.lit [62, 62])) (.ret (.int .i64 (.lit 7))) (.node (.seq (.var 0) (.lit [43])) (.ret (.int .i64 (.lit 8))) (.node (.seq (.var 0) (.lit [45])) (.ret (.int .i64 (.lit 8))) (.node (.seq (.var 0) (.lit [42])) (.ret (.int .i64 (.lit 9))) (.node (.seq (.var 0) (.lit [47])) (.ret (.int .i64 (.lit 9))) (.node (.seq (.var 0) (.lit [37])) (.ret (.int .i64 (.lit 9))) (.ret (.int .i64 (.lit 0)))))))))))))))))))))
theorem treeRank_ok : callTopF Tryz.prog noSum (List.range 175) 3000 148 [.str (.var 0)] [] = treeRank := by kernel_rfl
def sg0 : Beg := ⟨[38, 83], false, .int .i64 (.lit 1)⟩
theorem sg0_ok : BegOk Tryz.prog (List.range 175) 3000 36 sg0 := ⟨rfl, fun r _ => by kernel_rfl⟩
def sg1 : Beg := ⟨[38, 91], false, .int .i64 (.lit 1)⟩
theorem sg1_ok : BegOk Tryz.prog (List.range 175) 3000 36 sg1 := ⟨rfl, fun r _ => by kernel_rfl⟩
def sg2 : Beg := ⟨[38, 109], false, .int .i64 (.lit 1)⟩
theorem sg2_ok : BegOk Tryz.prog (List.range 175) 3000 36 sg2 := ⟨rfl, fun r _ => by kernel_rfl⟩
def sg3 : Beg := ⟨[38, 117], false, .int .i64 (.lit 1)⟩
theorem sg3_ok : BegOk Tryz.prog (List.range 175) 3000 36 sg3 := ⟨rfl, fun r _ => by kernel_rfl⟩
def sg4 : Beg := ⟨[38, 120], false, .int .i64 (.lit 1)⟩
theorem sg4_ok : BegOk Tryz.prog (List.range 175) 3000 36 sg4 := ⟨rfl, fun r _ => by kernel_rfl⟩
def sg5 : Beg := ⟨[38, 121], false, .int .i64 (.lit 1)⟩
theorem sg5_ok : BegOk Tryz.prog (List.range 175) 3000 36 sg5 := ⟨rfl, fun r _ => by kernel_rfl⟩
def sg6 : Beg := ⟨[40, 38], false, .int .i64 (.lit 1)⟩
theorem sg6_ok : BegOk Tryz.prog (List.range 175) 3000 36 sg6 := ⟨rfl, fun r _ => by kernel_rfl⟩
def sg7 : Beg := ⟨[40, 41], false, .int .i64 (.lit 1)⟩
theorem sg7_ok : BegOk Tryz.prog (List.range 175) 3000 36 sg7 := ⟨rfl, fun r _ => by kernel_rfl⟩
def sg8 : Beg := ⟨[40, 42], false, .int .i64 (.lit 1)⟩
theorem sg8_ok : BegOk Tryz.prog (List.range 175) 3000 36 sg8 := ⟨rfl, fun r _ => by kernel_rfl⟩
def sg9 : Beg := ⟨[40, 49], false, .int .i64 (.lit 1)⟩
theorem sg9_ok : BegOk Tryz.prog (List.range 175) 3000 36 sg9 := ⟨rfl, fun r _ => by kernel_rfl⟩
def sg10 : Beg := ⟨[40, 50], false, .int .i64 (.lit 1)⟩
theorem sg10_ok : BegOk Tryz.prog (List.range 175) 3000 36 sg10 := ⟨rfl, fun r _ => by kernel_rfl⟩
def sg11 : Beg := ⟨[40, 51], false, .int .i64 (.lit 1)⟩
theorem sg11_ok : BegOk Tryz.prog (List.range 175) 3000 36 sg11 := ⟨rfl, fun r _ => by kernel_rfl⟩
def sg12 : Beg := ⟨[40, 66], false, .int .i64 (.lit 1)⟩
theorem sg12_ok : BegOk Tryz.prog (List.range 175) 3000 36 sg12 := ⟨rfl, fun r _ => by kernel_rfl⟩
def sg13 : Beg := ⟨[40, 97], false, .int .i64 (.lit 1)⟩
theorem sg13_ok : BegOk Tryz.prog (List.range 175) 3000 36 sg13 := ⟨rfl, fun r _ => by kernel_rfl⟩
def sg14 : Beg := ⟨[40, 98], false, .int .i64 (.lit 1)⟩
theorem sg14_ok : BegOk Tryz.prog (List.range 175) 3000 36 sg14 := ⟨rfl, fun r _ => by kernel_rfl⟩
def sg15 : Beg := ⟨[40, 112], false, .int .i64 (.lit 1)⟩
theorem sg15_ok : BegOk Tryz.prog (List.range 175) 3000 36 sg15 := ⟨rfl, fun r _ => by kernel_rfl⟩
def sg16 : Beg := ⟨[40, 114], false, .int .i64 (.lit 1)⟩
theorem sg16_ok : BegOk Tryz.prog (List.range 175) 3000 36 sg16 := ⟨rfl, fun r _ => by kernel_rfl⟩
def sg17 : Beg := ⟨[40, 117], false, .int .i64 (.lit 1)⟩
theorem sg17_ok : BegOk Tryz.prog (List.range 175) 3000 36 sg17 := ⟨rfl, fun r _ => by kernel_rfl⟩
def sg18 : Beg := ⟨[40, 120], false, .int .i64 (.lit 1)⟩
theorem sg18_ok : BegOk Tryz.prog (List.range 175) 3000 36 sg18 := ⟨rfl, fun r _ => by kernel_rfl⟩
def sg19 : Beg := ⟨[41, 32], false, .int .i64 (.lit 1)⟩
theorem sg19_ok : BegOk Tryz.prog (List.range 175) 3000 36 sg19 := ⟨rfl, fun r _ => by kernel_rfl⟩
def sg20 : Beg := ⟨[41, 41], false, .int .i64 (.lit 1)⟩
theorem sg20_ok : BegOk Tryz.prog (List.range 175) 3000 36 sg20 := ⟨rfl, fun r _ => by kernel_rfl⟩
def sg21 : Beg := ⟨[41, 44], false, .int .i64 (.lit 1)⟩
theorem sg21_ok : BegOk Tryz.prog (List.range 175) 3000 36 sg21 := ⟨rfl, fun r _ => by kernel_rfl⟩
def sg22 : Beg := ⟨[41, 59], false, .int .i64 (.lit 1)⟩
theorem sg22_ok : BegOk Tryz.prog (List.range 175) 3000 36 sg22 := ⟨rfl, fun r _ => by kernel_rfl⟩
def sg23 : Beg := ⟨[41, 93], false, .int .i64 (.lit 1)⟩
theorem sg23_ok : BegOk Tryz.prog (List.range 175) 3000 36 sg23 := ⟨rfl, fun r _ => by kernel_rfl⟩
def sg24 : Beg := ⟨[42, 98], false, .int .i64 (.lit 1)⟩
theorem sg24_ok : BegOk Tryz.prog (List.range 175) 3000 36 sg24 := ⟨rfl, fun r _ => by kernel_rfl⟩
def sg25 : Beg := ⟨[44, 32], false, .int .i64 (.lit 1)⟩
theorem sg25_ok : BegOk Tryz.prog (List.range 175) 3000 36 sg25 := ⟨rfl, fun r _ => by kernel_rfl⟩
def sg26 : Beg := ⟨[46, 97], false, .int .i64 (.lit 1)⟩
theorem sg26_ok : BegOk Tryz.prog (List.range 175) 3000 36 sg26 := ⟨rfl, fun r _ => by kernel_rfl⟩
def sg27 : Beg := ⟨[46, 98], false, .int .i64 (.lit 1)⟩
theorem sg27_ok : BegOk Tryz.prog (List.range 175) 3000 36 sg27 := ⟨rfl, fun r _ => by kernel_rfl⟩
def sg28 : Beg := ⟨[46, 120], false, .int .i64 (.lit 1)⟩
theorem sg28_ok : BegOk Tryz.prog (List.range 175) 3000 36 sg28 := ⟨rfl, fun r _ => by kernel_rfl⟩
def sg29 : Beg := ⟨[58, 32], false, .int .i64 (.lit 1)⟩
theorem sg29_ok : BegOk Tryz.prog (List.range 175) 3000 36 sg29 := ⟨rfl, fun r _ => by kernel_rfl⟩
def sg30 : Beg := ⟨[58, 58], false, .int .i64 (.lit 2)⟩
theorem sg30_ok : BegOk Tryz.prog (List.range 175) 3000 36 sg30 := ⟨rfl, fun r _ => by kernel_rfl⟩
def sg31 : Beg := ⟨[59, 32], false, .int .i64 (.lit 1)⟩
theorem sg31_ok : BegOk Tryz.prog (List.range 175) 3000 36 sg31 := ⟨rfl, fun r _ => by kernel_rfl⟩
def sg32 : Beg := ⟨[60, 105], false, .int .i64 (.lit 1)⟩
theorem sg32_ok : BegOk Tryz.prog (List.range 175) 3000 36 sg32 := ⟨rfl, fun r _ => by kernel_rfl⟩
def sg33 : Beg := ⟨[61, 32], false, .int .i64 (.lit 1)⟩
theorem sg33_ok : BegOk Tryz.prog (List.range 175) 3000 36 sg33 := ⟨rfl, fun r _ => by kernel_rfl⟩
def sg34 : Beg := ⟨[61, 61], false, .int .i64 (.lit 2)⟩
theorem sg34_ok : BegOk Tryz.prog (List.range 175) 3000 36 sg34 := ⟨rfl, fun r _ => by kernel_rfl⟩
def sg35 : Beg := ⟨[62, 32], false, .int .i64 (.lit 1)⟩
theorem sg35_ok : BegOk Tryz.prog (List.range 175) 3000 36 sg35 := ⟨rfl, fun r _ => by kernel_rfl⟩
def sg36 : Beg := ⟨[62, 41], false, .int .i64 (.lit 1)⟩
theorem sg36_ok : BegOk Tryz.prog (List.range 175) 3000 36 sg36 := ⟨rfl, fun r _ => by kernel_rfl⟩
def sg37 : Beg := ⟨[91, 48], false, .int .i64 (.lit 1)⟩
theorem sg37_ok : BegOk Tryz.prog (List.range 175) 3000 36 sg37 := ⟨rfl, fun r _ => by kernel_rfl⟩
def sg38 : Beg := ⟨[91, 49], false, .int .i64 (.lit 1)⟩
theorem sg38_ok : BegOk Tryz.prog (List.range 175) 3000 36 sg38 := ⟨rfl, fun r _ => by kernel_rfl⟩
def sg39 : Beg := ⟨[91, 66], false, .int .i64 (.lit 1)⟩
theorem sg39_ok : BegOk Tryz.prog (List.range 175) 3000 36 sg39 := ⟨rfl, fun r _ => by kernel_rfl⟩
def sg40 : Beg := ⟨[91, 98], false, .int .i64 (.lit 1)⟩
theorem sg40_ok : BegOk Tryz.prog (List.range 175) 3000 36 sg40 := ⟨rfl, fun r _ => by kernel_rfl⟩
def sg41 : Beg := ⟨[91, 105], false, .int .i64 (.lit 1)⟩
theorem sg41_ok : BegOk Tryz.prog (List.range 175) 3000 36 sg41 := ⟨rfl, fun r _ => by kernel_rfl⟩
def sg42 : Beg := ⟨[91, 116], false, .int .i64 (.lit 1)⟩
theorem sg42_ok : BegOk Tryz.prog (List.range 175) 3000 36 sg42 := ⟨rfl, fun r _ => by kernel_rfl⟩
def sg43 : Beg := ⟨[91, 117], false, .int .i64 (.lit 1)⟩
theorem sg43_ok : BegOk Tryz.prog (List.range 175) 3000 36 sg43 := ⟨rfl, fun r _ => by kernel_rfl⟩
def sg44 : Beg := ⟨[93, 32], false, .int .i64 (.lit 1)⟩
theorem sg44_ok : BegOk Tryz.prog (List.range 175) 3000 36 sg44 := ⟨rfl, fun r _ => by kernel_rfl⟩
def sg45 : Beg := ⟨[93, 41], false, .int .i64 (.lit 1)⟩
theorem sg45_ok : BegOk Tryz.prog (List.range 175) 3000 36 sg45 := ⟨rfl, fun r _ => by kernel_rfl⟩
def sg46 : Beg := ⟨[93, 44], false, .int .i64 (.lit 1)⟩
theorem sg46_ok : BegOk Tryz.prog (List.range 175) 3000 36 sg46 := ⟨rfl, fun r _ => by kernel_rfl⟩
def sg47 : Beg := ⟨[93, 59], false, .int .i64 (.lit 1)⟩
theorem sg47_ok : BegOk Tryz.prog (List.range 175) 3000 36 sg47 := ⟨rfl, fun r _ => by kernel_rfl⟩
def sg48 : Beg := ⟨[123, 32], false, .int .i64 (.lit 1)⟩
theorem sg48_ok : BegOk Tryz.prog (List.range 175) 3000 36 sg48 := ⟨rfl, fun r _ => by kernel_rfl⟩
def sg49 : Beg := ⟨[123, 125], false, .int .i64 (.lit 1)⟩
theorem sg49_ok : BegOk Tryz.prog (List.range 175) 3000 36 sg49 := ⟨rfl, fun r _ => by kernel_rfl⟩
def sg50 : Beg := ⟨[125], true, .int .i64 (.lit 1)⟩
theorem sg50_ok : BegOk Tryz.prog (List.range 175) 3000 36 sg50 := ⟨rfl, fun r h => by obtain rfl := h rfl; kernel_rfl⟩
def sg51 : Beg := ⟨[125, 32], false, .int .i64 (.lit 1)⟩
theorem sg51_ok : BegOk Tryz.prog (List.range 175) 3000 36 sg51 := ⟨rfl, fun r _ => by kernel_rfl⟩
def sg52 : Beg := ⟨[125, 59], false, .int .i64 (.lit 1)⟩
theorem sg52_ok : BegOk Tryz.prog (List.range 175) 3000 36 sg52 := ⟨rfl, fun r _ => by kernel_rfl⟩
def signs : List Beg := [sg0, sg1, sg2, sg3, sg4, sg5, sg6, sg7, sg8, sg9, sg10, sg11, sg12, sg13, sg14, sg15, sg16, sg17, sg18, sg19, sg20, sg21, sg22, sg23, sg24, sg25, sg26, sg27, sg28, sg29, sg30, sg31, sg32, sg33, sg34, sg35, sg36, sg37, sg38, sg39, sg40, sg41, sg42, sg43, sg44, sg45, sg46, sg47, sg48, sg49, sg50, sg51, sg52]
theorem signs_ok : BegsOk Tryz.prog (List.range 175) 3000 36 signs := .cons sg0_ok (.cons sg1_ok (.cons sg2_ok (.cons sg3_ok (.cons sg4_ok (.cons sg5_ok (.cons sg6_ok (.cons sg7_ok (.cons sg8_ok (.cons sg9_ok (.cons sg10_ok (.cons sg11_ok (.cons sg12_ok (.cons sg13_ok (.cons sg14_ok (.cons sg15_ok (.cons sg16_ok (.cons sg17_ok (.cons sg18_ok (.cons sg19_ok (.cons sg20_ok (.cons sg21_ok (.cons sg22_ok (.cons sg23_ok (.cons sg24_ok (.cons sg25_ok (.cons sg26_ok (.cons sg27_ok (.cons sg28_ok (.cons sg29_ok (.cons sg30_ok (.cons sg31_ok (.cons sg32_ok (.cons sg33_ok (.cons sg34_ok (.cons sg35_ok (.cons sg36_ok (.cons sg37_ok (.cons sg38_ok (.cons sg39_ok (.cons sg40_ok (.cons sg41_ok (.cons sg42_ok (.cons sg43_ok (.cons sg44_ok (.cons sg45_ok (.cons sg46_ok (.cons sg47_ok (.cons sg48_ok (.cons sg49_ok (.cons sg50_ok (.cons sg51_ok (.cons sg52_ok (.nil)))))))))))))))))))))))))))))))))))))))))))))))))))))
def puSum : Summary := ((((noSum.put 32 (numG treeLetter .u8)).put 33 (numG treeDigit .u8)).put 35 (textG treeWord)).put 148 (textG treeRank)).put 36 (begG signs)
theorem puSum_ok (η : Env) : SumOk η Tryz.prog puSum :=
  have hP : Plain Tryz.prog := plain_of (by kernel_rfl)
  have hM : Tryz.prog.follows .mixedOrders = true := by kernel_rfl
  SumOk.begs hP hM (SumOk.text hP hM (SumOk.text hP hM (SumOk.num hP hM (SumOk.num hP hM (noSum_ok _ _) pu_plans treeLetter_ok) pu_plans treeDigit_ok) pu_plans treeWord_ok) pu_plans treeRank_ok) pu_plans signs_ok
end
end Go.Proofs.YtbobnbndbgpanaaGreat.Sx
