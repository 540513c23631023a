/- HeapApart: the regions that take one element out of a row. -/
import Derived.Test.YtlpdemdakcjjjaaHpX0
namespace Go.Proofs.Ytlpdemdakcjjjaa.W
open Go Go.RowKit Go.Proofs Go.Proofs.Ytlpdemdakcjjjaa.Sx
set_option linter.unusedVariables false
set_option linter.unusedSimpArgs false
/-- It ends as it should. -/
def OnN (R : Act → World → Prop) (e : Exit) (a : Act) (w : World) : Prop := match e with
  | .normal => R a w
  | _ => False
theorem wp_onN {P : Program} {c : Code} {Q : Exit → Act → World → Prop} {R : Act → World → Prop} {a : Act} {w : World} (h : c.wp P (OnN R) a w) (hq : ∀ a w, R a w → Q .normal a w) : c.wp P Q a w :=
  Code.wp_mono (fun e a w h => by cases e <;> first | exact hq _ _ h | exact False.elim h) h
def findR (r : Nat) : Code → Option Code
  | .region n ops d => if n = r then some (.region n ops d) else none
  | .seq a b => match findR r a with
    | some c => some c
    | none => findR r b
  | .block _ c => findR r c
  | .scope c => findR r c
  | .loop c => findR r c
  | .cond _ a b => match findR r a with
    | some c => some c
    | none => findR r b
  | _ => none
noncomputable def code34 : Code := (Try.f7.body.bind (findR 34)).getD .skip
set_option maxHeartbeats 100000000 in
set_option maxRecDepth 1000000 in
theorem region34 (u0 u1 u2 u3 u4 u5 u7 u8 u9 u10 u11 u12 u13 u14 u15 u16 u17 u18 u19 u21 u22 u23 u24 u25 u26 u27 u28 u29 u30 u31 u32 u33 u34 u35 u36 u37 u38 u39 u40 u41 u42 u43 u44 u45 u46 u47 u48 u49 u50 u51 u52 u53 u54 u55 u56 u57 u58 u59 u60 u61 u62 u63 u64 u65 u66 u67 u68 u69 u70 u71 u72 u73 u74 u75 u76 u77 u78 u79 u80 u81 u82 u83 u84 u85 u86 u87 u88 u89 u90 u91 u92 u93 u94 u95 u96 u97 u98 u99 u100 u101 u102 u103 u104 u105 u106 u107 u108 u109 u110 u111 u112 u113 u114 u115 u116 u117 u118 u119 u120 u121 u122 u123 u124 u125 u126 u127 u128 u129 u130 u131 u132 u133 u134 u135 u136 u137 u138 u139 u140 u141 u142 u143 u144 u145 u146 u147 u148 u149 u150 u151 u152 u153 u154 u155 u156 u157 u158 u159 u160 u161 u162 u163 u164 u165 u166 u167 u168 u169 u170 u171 u172 u173 u174 u175 u176 u177 u178 u179 u180 u181 u182 u183 u184 u185 u186 u187 u188 u189 u190 u191 u192 u193 u194 u195 u196 u197 u198 u199 u200 u201 u202 u203 u204 u205 u206 u207 u208 u209 u210 u211 u212 u213 u214 u215 u216 u217 u218 u219 u220 u221 u222 u223 u224 u225 u226 u227 u228 u229 u230 u231 u232 u233 u234 u235 u236 u237 u238 u239 u240 u241 u242 : Value) (g cap n q B : Nat) (xs : List Value) (W : World) (OW : W.ownsRow B 3 1 (.slice (some ⟨g, 0, none⟩) n cap) n xs) (hone : ∀ u ∈ xs, u.oneCell' = true) (hq : q < n) (hn : n ≤ 300) :
    Code.wp Try.prog code34 (OnN fun a w' => ∃ v s213 s214 s215 s216 s217 s218 s219 s220 s221 s222 : Value, a = ⟨#[u0, u1, u2, u3, u4, u5, v, u7, u8, u9, u10, u11, u12, u13, u14, u15, u16, u17, u18, u19, .int .i64 q, u21, u22, u23, u24, u25, u26, u27, u28, u29, u30, u31, u32, u33, u34, u35, u36, u37, u38, u39, u40, u41, u42, u43, u44, u45, u46, u47, u48, u49, u50, u51, u52, u53, u54, u55, u56, u57, u58, u59, u60, u61, u62, u63, u64, u65, u66, u67, u68, u69, u70, u71, u72, u73, u74, u75, u76, u77, u78, u79, u80, u81, u82, u83, u84, u85, u86, u87, u88, u89, u90, u91, u92, u93, u94, u95, u96, u97, u98, u99, u100, u101, u102, u103, u104, u105, u106, u107, u108, u109, u110, u111, u112, u113, u114, u115, u116, u117, u118, u119, u120, u121, u122, u123, u124, u125, u126, u127, u128, u129, u130, u131, u132, u133, u134, u135, u136, u137, u138, u139, u140, u141, u142, u143, u144, u145, u146, u147, u148, u149, u150, u151, u152, u153, u154, u155, u156, u157, u158, u159, u160, u161, u162, u163, u164, u165, u166, u167, u168, u169, u170, u171, u172, u173, u174, u175, u176, u177, u178, u179, u180, u181, u182, u183, u184, u185, u186, u187, u188, u189, u190, u191, u192, u193, u194, u195, u196, u197, u198, u199, u200, u201, u202, u203, u204, u205, u206, u207, u208, u209, u210, u211, u212, s213, s214, s215, s216, s217, s218, s219, s220, s221, s222, u223, u224, u225, u226, u227, u228, u229, u230, u231, u232, u233, u234, u235, u236, u237, u238, u239, u240, u241, u242], []⟩ ∧ w'.ownsRow W.heap.size 3 1 v (n - 1) (xs.take (q * 1) ++ xs.drop ((q + 1) * 1)) ∧ Below W.heap.size W w') ⟨#[u0, u1, u2, u3, u4, u5, .slice (some ⟨g, 0, none⟩) n cap, u7, u8, u9, u10, u11, u12, u13, u14, u15, u16, u17, u18, u19, .int .i64 q, u21, u22, u23, u24, u25, u26, u27, u28, u29, u30, u31, u32, u33, u34, u35, u36, u37, u38, u39, u40, u41, u42, u43, u44, u45, u46, u47, u48, u49, u50, u51, u52, u53, u54, u55, u56, u57, u58, u59, u60, u61, u62, u63, u64, u65, u66, u67, u68, u69, u70, u71, u72, u73, u74, u75, u76, u77, u78, u79, u80, u81, u82, u83, u84, u85, u86, u87, u88, u89, u90, u91, u92, u93, u94, u95, u96, u97, u98, u99, u100, u101, u102, u103, u104, u105, u106, u107, u108, u109, u110, u111, u112, u113, u114, u115, u116, u117, u118, u119, u120, u121, u122, u123, u124, u125, u126, u127, u128, u129, u130, u131, u132, u133, u134, u135, u136, u137, u138, u139, u140, u141, u142, u143, u144, u145, u146, u147, u148, u149, u150, u151, u152, u153, u154, u155, u156, u157, u158, u159, u160, u161, u162, u163, u164, u165, u166, u167, u168, u169, u170, u171, u172, u173, u174, u175, u176, u177, u178, u179, u180, u181, u182, u183, u184, u185, u186, u187, u188, u189, u190, u191, u192, u193, u194, u195, u196, u197, u198, u199, u200, u201, u202, u203, u204, u205, u206, u207, u208, u209, u210, u211, u212, u213, u214, u215, u216, u217, u218, u219, u220, u221, u222, u223, u224, u225, u226, u227, u228, u229, u230, u231, u232, u233, u234, u235, u236, u237, u238, u239, u240, u241, u242], []⟩ W := by
  conv => arg 2; whnf
  obtain ⟨i0, hi, hz0, hz1, hz2⟩ := info_parts info3
  have hw1 : IntKind.i64.wrap ((q : Int) + 1) = (q : Int) + 1 := wr64 _ (by omega) (by omega)
  have hp0 : (0 : Int) ≤ (q : Int) + 1 := by omega
  have hp1 : (q : Int) + 1 ≤ (n : Int) := by omega
  have hp2 : ((q : Int) + 1).toNat = q + 1 := by omega
  obtain ⟨hnc, hgl, hBg⟩ := own_cap OW
  have hqc : q ≤ cap := by omega
  obtain ⟨A, hA⟩ : ∃ A : Addr, (if cap = q + 1 then some (⟨g, 0, none⟩ : Addr) else some ⟨g, (q + 1) * 1, none⟩) = some A := by
    split
    · exact ⟨_, rfl⟩
    · exact ⟨_, rfl⟩
  have O1 := Lib.hid OW
  have T1 := Lib.hid (take_len OW hq)
  have N1 := Lib.hid (fun m => own_one hone m)
  have A1 := Lib.hid hA
  rw [Nat.mul_one] at hA
  clear OW hone
  go_region_law (first
    | (refine step_append_own2 rfl (.tmp 213) (.tmp 216) 25 rfl W.heap.size 3 i0 (.int .i64 0) 1 8 Try.underlying25 hi hz0 hz1 hz2 rfl (by decide) (.slice (some ⟨W.heap.size, 0, none⟩) 0 0) 0 [] (by simp [Act.eval, Act.put]) (own_empty W 3 1) ⟨g, 0, none⟩ q cap (xs.take (q * 1)) (by simp [Act.eval, Act.put]) T1.out.1 (own_news O1.out (Below.heap_alloc W _ g hgl) _) (N1.out (q * 1)).1 (by unfold maxLen; omega) (by omega) (by simp) ?_
       intro v1 w4 hown1 hgrow1 G1
       clear G1
       have kg : w4.heap[g]? = W.heap[g]? := (hgrow1.block g (by simp; omega) (by simp [Value.ownBlock]; omega)).trans (Below.heap_alloc W _ g hgl))
    | (refine step_append_own2 rfl (.tmp 217) (.tmp 221) 25 rfl W.heap.size 3 i0 (.int .i64 0) 1 8 Try.underlying25 hi hz0 hz1 hz2 rfl (by decide) v1 (0 + q) ([] ++ xs.take (q * 1)) (by simp [Act.eval, Act.put]) hown1 A (n - (q + 1)) (cap - (q + 1)) (xs.drop ((q + 1) * 1)) (by simp [Act.eval, Act.put]) T1.out.2 (own_tail O1.out hq hnc kg A1.out) (N1.out ((q + 1) * 1)).2 (by unfold maxLen; omega) (by omega) (by have := hgrow1.size; simp at this; omega) ?_
       intro v2 w5 hown2 hgrow2 G2
       clear G2))
  all_goals
    have qo := own_out hq hgrow1 hown1 hgrow2 hown2
    unfold OnN
    exact ⟨_, _, _, _, _, _, _, _, _, _, _, rfl, qo.2, qo.1⟩
noncomputable def code35 : Code := (Try.f7.body.bind (findR 35)).getD .skip
set_option maxHeartbeats 100000000 in
set_option maxRecDepth 1000000 in
theorem region35 (u0 u1 u2 u3 u4 u5 u6 u8 u9 u10 u11 u12 u13 u14 u15 u16 u17 u18 u19 u21 u22 u23 u24 u25 u26 u27 u28 u29 u30 u31 u32 u33 u34 u35 u36 u37 u38 u39 u40 u41 u42 u43 u44 u45 u46 u47 u48 u49 u50 u51 u52 u53 u54 u55 u56 u57 u58 u59 u60 u61 u62 u63 u64 u65 u66 u67 u68 u69 u70 u71 u72 u73 u74 u75 u76 u77 u78 u79 u80 u81 u82 u83 u84 u85 u86 u87 u88 u89 u90 u91 u92 u93 u94 u95 u96 u97 u98 u99 u100 u101 u102 u103 u104 u105 u106 u107 u108 u109 u110 u111 u112 u113 u114 u115 u116 u117 u118 u119 u120 u121 u122 u123 u124 u125 u126 u127 u128 u129 u130 u131 u132 u133 u134 u135 u136 u137 u138 u139 u140 u141 u142 u143 u144 u145 u146 u147 u148 u149 u150 u151 u152 u153 u154 u155 u156 u157 u158 u159 u160 u161 u162 u163 u164 u165 u166 u167 u168 u169 u170 u171 u172 u173 u174 u175 u176 u177 u178 u179 u180 u181 u182 u183 u184 u185 u186 u187 u188 u189 u190 u191 u192 u193 u194 u195 u196 u197 u198 u199 u200 u201 u202 u203 u204 u205 u206 u207 u208 u209 u210 u211 u212 u213 u214 u215 u216 u217 u218 u219 u220 u221 u222 u223 u224 u225 u226 u227 u228 u229 u230 u231 u232 u233 u234 u235 u236 u237 u238 u239 u240 u241 u242 : Value) (g cap n q B : Nat) (xs : List Value) (W : World) (OW : W.ownsRow B 3 1 (.slice (some ⟨g, 0, none⟩) n cap) n xs) (hone : ∀ u ∈ xs, u.oneCell' = true) (hq : q < n) (hn : n ≤ 300) :
    Code.wp Try.prog code35 (OnN fun a w' => ∃ v s223 s224 s225 s226 s227 s228 s229 s230 s231 s232 : Value, a = ⟨#[u0, u1, u2, u3, u4, u5, u6, v, u8, u9, u10, u11, u12, u13, u14, u15, u16, u17, u18, u19, .int .i64 q, u21, u22, u23, u24, u25, u26, u27, u28, u29, u30, u31, u32, u33, u34, u35, u36, u37, u38, u39, u40, u41, u42, u43, u44, u45, u46, u47, u48, u49, u50, u51, u52, u53, u54, u55, u56, u57, u58, u59, u60, u61, u62, u63, u64, u65, u66, u67, u68, u69, u70, u71, u72, u73, u74, u75, u76, u77, u78, u79, u80, u81, u82, u83, u84, u85, u86, u87, u88, u89, u90, u91, u92, u93, u94, u95, u96, u97, u98, u99, u100, u101, u102, u103, u104, u105, u106, u107, u108, u109, u110, u111, u112, u113, u114, u115, u116, u117, u118, u119, u120, u121, u122, u123, u124, u125, u126, u127, u128, u129, u130, u131, u132, u133, u134, u135, u136, u137, u138, u139, u140, u141, u142, u143, u144, u145, u146, u147, u148, u149, u150, u151, u152, u153, u154, u155, u156, u157, u158, u159, u160, u161, u162, u163, u164, u165, u166, u167, u168, u169, u170, u171, u172, u173, u174, u175, u176, u177, u178, u179, u180, u181, u182, u183, u184, u185, u186, u187, u188, u189, u190, u191, u192, u193, u194, u195, u196, u197, u198, u199, u200, u201, u202, u203, u204, u205, u206, u207, u208, u209, u210, u211, u212, u213, u214, u215, u216, u217, u218, u219, u220, u221, u222, s223, s224, s225, s226, s227, s228, s229, s230, s231, s232, u233, u234, u235, u236, u237, u238, u239, u240, u241, u242], []⟩ ∧ w'.ownsRow W.heap.size 3 1 v (n - 1) (xs.take (q * 1) ++ xs.drop ((q + 1) * 1)) ∧ Below W.heap.size W w') ⟨#[u0, u1, u2, u3, u4, u5, u6, .slice (some ⟨g, 0, none⟩) n cap, u8, u9, u10, u11, u12, u13, u14, u15, u16, u17, u18, u19, .int .i64 q, u21, u22, u23, u24, u25, u26, u27, u28, u29, u30, u31, u32, u33, u34, u35, u36, u37, u38, u39, u40, u41, u42, u43, u44, u45, u46, u47, u48, u49, u50, u51, u52, u53, u54, u55, u56, u57, u58, u59, u60, u61, u62, u63, u64, u65, u66, u67, u68, u69, u70, u71, u72, u73, u74, u75, u76, u77, u78, u79, u80, u81, u82, u83, u84, u85, u86, u87, u88, u89, u90, u91, u92, u93, u94, u95, u96, u97, u98, u99, u100, u101, u102, u103, u104, u105, u106, u107, u108, u109, u110, u111, u112, u113, u114, u115, u116, u117, u118, u119, u120, u121, u122, u123, u124, u125, u126, u127, u128, u129, u130, u131, u132, u133, u134, u135, u136, u137, u138, u139, u140, u141, u142, u143, u144, u145, u146, u147, u148, u149, u150, u151, u152, u153, u154, u155, u156, u157, u158, u159, u160, u161, u162, u163, u164, u165, u166, u167, u168, u169, u170, u171, u172, u173, u174, u175, u176, u177, u178, u179, u180, u181, u182, u183, u184, u185, u186, u187, u188, u189, u190, u191, u192, u193, u194, u195, u196, u197, u198, u199, u200, u201, u202, u203, u204, u205, u206, u207, u208, u209, u210, u211, u212, u213, u214, u215, u216, u217, u218, u219, u220, u221, u222, u223, u224, u225, u226, u227, u228, u229, u230, u231, u232, u233, u234, u235, u236, u237, u238, u239, u240, u241, u242], []⟩ W := by
  conv => arg 2; whnf
  obtain ⟨i0, hi, hz0, hz1, hz2⟩ := info_parts info3
  have hw1 : IntKind.i64.wrap ((q : Int) + 1) = (q : Int) + 1 := wr64 _ (by omega) (by omega)
  have hp0 : (0 : Int) ≤ (q : Int) + 1 := by omega
  have hp1 : (q : Int) + 1 ≤ (n : Int) := by omega
  have hp2 : ((q : Int) + 1).toNat = q + 1 := by omega
  obtain ⟨hnc, hgl, hBg⟩ := own_cap OW
  have hqc : q ≤ cap := by omega
  obtain ⟨A, hA⟩ : ∃ A : Addr, (if cap = q + 1 then some (⟨g, 0, none⟩ : Addr) else some ⟨g, (q + 1) * 1, none⟩) = some A := by
    split
    · exact ⟨_, rfl⟩
    · exact ⟨_, rfl⟩
  have O1 := Lib.hid OW
  have T1 := Lib.hid (take_len OW hq)
  have N1 := Lib.hid (fun m => own_one hone m)
  have A1 := Lib.hid hA
  rw [Nat.mul_one] at hA
  clear OW hone
  go_region_law (first
    | (refine step_append_own2 rfl (.tmp 223) (.tmp 226) 25 rfl W.heap.size 3 i0 (.int .i64 0) 1 8 Try.underlying25 hi hz0 hz1 hz2 rfl (by decide) (.slice (some ⟨W.heap.size, 0, none⟩) 0 0) 0 [] (by simp [Act.eval, Act.put]) (own_empty W 3 1) ⟨g, 0, none⟩ q cap (xs.take (q * 1)) (by simp [Act.eval, Act.put]) T1.out.1 (own_news O1.out (Below.heap_alloc W _ g hgl) _) (N1.out (q * 1)).1 (by unfold maxLen; omega) (by omega) (by simp) ?_
       intro v1 w4 hown1 hgrow1 G1
       clear G1
       have kg : w4.heap[g]? = W.heap[g]? := (hgrow1.block g (by simp; omega) (by simp [Value.ownBlock]; omega)).trans (Below.heap_alloc W _ g hgl))
    | (refine step_append_own2 rfl (.tmp 227) (.tmp 231) 25 rfl W.heap.size 3 i0 (.int .i64 0) 1 8 Try.underlying25 hi hz0 hz1 hz2 rfl (by decide) v1 (0 + q) ([] ++ xs.take (q * 1)) (by simp [Act.eval, Act.put]) hown1 A (n - (q + 1)) (cap - (q + 1)) (xs.drop ((q + 1) * 1)) (by simp [Act.eval, Act.put]) T1.out.2 (own_tail O1.out hq hnc kg A1.out) (N1.out ((q + 1) * 1)).2 (by unfold maxLen; omega) (by omega) (by have := hgrow1.size; simp at this; omega) ?_
       intro v2 w5 hown2 hgrow2 G2
       clear G2))
  all_goals
    have qo := own_out hq hgrow1 hown1 hgrow2 hown2
    unfold OnN
    exact ⟨_, _, _, _, _, _, _, _, _, _, _, rfl, qo.2, qo.1⟩
noncomputable def code36 : Code := (Try.f7.body.bind (findR 36)).getD .skip
set_option maxHeartbeats 100000000 in
set_option maxRecDepth 1000000 in
theorem region36 (u0 u1 u2 u3 u4 u5 u6 u7 u9 u10 u11 u12 u13 u14 u15 u16 u17 u18 u19 u21 u22 u23 u24 u25 u26 u27 u28 u29 u30 u31 u32 u33 u34 u35 u36 u37 u38 u39 u40 u41 u42 u43 u44 u45 u46 u47 u48 u49 u50 u51 u52 u53 u54 u55 u56 u57 u58 u59 u60 u61 u62 u63 u64 u65 u66 u67 u68 u69 u70 u71 u72 u73 u74 u75 u76 u77 u78 u79 u80 u81 u82 u83 u84 u85 u86 u87 u88 u89 u90 u91 u92 u93 u94 u95 u96 u97 u98 u99 u100 u101 u102 u103 u104 u105 u106 u107 u108 u109 u110 u111 u112 u113 u114 u115 u116 u117 u118 u119 u120 u121 u122 u123 u124 u125 u126 u127 u128 u129 u130 u131 u132 u133 u134 u135 u136 u137 u138 u139 u140 u141 u142 u143 u144 u145 u146 u147 u148 u149 u150 u151 u152 u153 u154 u155 u156 u157 u158 u159 u160 u161 u162 u163 u164 u165 u166 u167 u168 u169 u170 u171 u172 u173 u174 u175 u176 u177 u178 u179 u180 u181 u182 u183 u184 u185 u186 u187 u188 u189 u190 u191 u192 u193 u194 u195 u196 u197 u198 u199 u200 u201 u202 u203 u204 u205 u206 u207 u208 u209 u210 u211 u212 u213 u214 u215 u216 u217 u218 u219 u220 u221 u222 u223 u224 u225 u226 u227 u228 u229 u230 u231 u232 u233 u234 u235 u236 u237 u238 u239 u240 u241 u242 : Value) (g cap n q B : Nat) (xs : List Value) (W : World) (OW : W.ownsRow B 3 1 (.slice (some ⟨g, 0, none⟩) n cap) n xs) (hone : ∀ u ∈ xs, u.oneCell' = true) (hq : q < n) (hn : n ≤ 300) :
    Code.wp Try.prog code36 (OnN fun a w' => ∃ v s233 s234 s235 s236 s237 s238 s239 s240 s241 s242 : Value, a = ⟨#[u0, u1, u2, u3, u4, u5, u6, u7, v, u9, u10, u11, u12, u13, u14, u15, u16, u17, u18, u19, .int .i64 q, u21, u22, u23, u24, u25, u26, u27, u28, u29, u30, u31, u32, u33, u34, u35, u36, u37, u38, u39, u40, u41, u42, u43, u44, u45, u46, u47, u48, u49, u50, u51, u52, u53, u54, u55, u56, u57, u58, u59, u60, u61, u62, u63, u64, u65, u66, u67, u68, u69, u70, u71, u72, u73, u74, u75, u76, u77, u78, u79, u80, u81, u82, u83, u84, u85, u86, u87, u88, u89, u90, u91, u92, u93, u94, u95, u96, u97, u98, u99, u100, u101, u102, u103, u104, u105, u106, u107, u108, u109, u110, u111, u112, u113, u114, u115, u116, u117, u118, u119, u120, u121, u122, u123, u124, u125, u126, u127, u128, u129, u130, u131, u132, u133, u134, u135, u136, u137, u138, u139, u140, u141, u142, u143, u144, u145, u146, u147, u148, u149, u150, u151, u152, u153, u154, u155, u156, u157, u158, u159, u160, u161, u162, u163, u164, u165, u166, u167, u168, u169, u170, u171, u172, u173, u174, u175, u176, u177, u178, u179, u180, u181, u182, u183, u184, u185, u186, u187, u188, u189, u190, u191, u192, u193, u194, u195, u196, u197, u198, u199, u200, u201, u202, u203, u204, u205, u206, u207, u208, u209, u210, u211, u212, u213, u214, u215, u216, u217, u218, u219, u220, u221, u222, u223, u224, u225, u226, u227, u228, u229, u230, u231, u232, s233, s234, s235, s236, s237, s238, s239, s240, s241, s242], []⟩ ∧ w'.ownsRow W.heap.size 3 1 v (n - 1) (xs.take (q * 1) ++ xs.drop ((q + 1) * 1)) ∧ Below W.heap.size W w') ⟨#[u0, u1, u2, u3, u4, u5, u6, u7, .slice (some ⟨g, 0, none⟩) n cap, u9, u10, u11, u12, u13, u14, u15, u16, u17, u18, u19, .int .i64 q, u21, u22, u23, u24, u25, u26, u27, u28, u29, u30, u31, u32, u33, u34, u35, u36, u37, u38, u39, u40, u41, u42, u43, u44, u45, u46, u47, u48, u49, u50, u51, u52, u53, u54, u55, u56, u57, u58, u59, u60, u61, u62, u63, u64, u65, u66, u67, u68, u69, u70, u71, u72, u73, u74, u75, u76, u77, u78, u79, u80, u81, u82, u83, u84, u85, u86, u87, u88, u89, u90, u91, u92, u93, u94, u95, u96, u97, u98, u99, u100, u101, u102, u103, u104, u105, u106, u107, u108, u109, u110, u111, u112, u113, u114, u115, u116, u117, u118, u119, u120, u121, u122, u123, u124, u125, u126, u127, u128, u129, u130, u131, u132, u133, u134, u135, u136, u137, u138, u139, u140, u141, u142, u143, u144, u145, u146, u147, u148, u149, u150, u151, u152, u153, u154, u155, u156, u157, u158, u159, u160, u161, u162, u163, u164, u165, u166, u167, u168, u169, u170, u171, u172, u173, u174, u175, u176, u177, u178, u179, u180, u181, u182, u183, u184, u185, u186, u187, u188, u189, u190, u191, u192, u193, u194, u195, u196, u197, u198, u199, u200, u201, u202, u203, u204, u205, u206, u207, u208, u209, u210, u211, u212, u213, u214, u215, u216, u217, u218, u219, u220, u221, u222, u223, u224, u225, u226, u227, u228, u229, u230, u231, u232, u233, u234, u235, u236, u237, u238, u239, u240, u241, u242], []⟩ W := by
  conv => arg 2; whnf
  obtain ⟨i0, hi, hz0, hz1, hz2⟩ := info_parts info3
  have hw1 : IntKind.i64.wrap ((q : Int) + 1) = (q : Int) + 1 := wr64 _ (by omega) (by omega)
  have hp0 : (0 : Int) ≤ (q : Int) + 1 := by omega
  have hp1 : (q : Int) + 1 ≤ (n : Int) := by omega
  have hp2 : ((q : Int) + 1).toNat = q + 1 := by omega
  obtain ⟨hnc, hgl, hBg⟩ := own_cap OW
  have hqc : q ≤ cap := by omega
  obtain ⟨A, hA⟩ : ∃ A : Addr, (if cap = q + 1 then some (⟨g, 0, none⟩ : Addr) else some ⟨g, (q + 1) * 1, none⟩) = some A := by
    split
    · exact ⟨_, rfl⟩
    · exact ⟨_, rfl⟩
  have O1 := Lib.hid OW
  have T1 := Lib.hid (take_len OW hq)
  have N1 := Lib.hid (fun m => own_one hone m)
  have A1 := Lib.hid hA
  rw [Nat.mul_one] at hA
  clear OW hone
  go_region_law (first
    | (refine step_append_own2 rfl (.tmp 233) (.tmp 236) 25 rfl W.heap.size 3 i0 (.int .i64 0) 1 8 Try.underlying25 hi hz0 hz1 hz2 rfl (by decide) (.slice (some ⟨W.heap.size, 0, none⟩) 0 0) 0 [] (by simp [Act.eval, Act.put]) (own_empty W 3 1) ⟨g, 0, none⟩ q cap (xs.take (q * 1)) (by simp [Act.eval, Act.put]) T1.out.1 (own_news O1.out (Below.heap_alloc W _ g hgl) _) (N1.out (q * 1)).1 (by unfold maxLen; omega) (by omega) (by simp) ?_
       intro v1 w4 hown1 hgrow1 G1
       clear G1
       have kg : w4.heap[g]? = W.heap[g]? := (hgrow1.block g (by simp; omega) (by simp [Value.ownBlock]; omega)).trans (Below.heap_alloc W _ g hgl))
    | (refine step_append_own2 rfl (.tmp 237) (.tmp 241) 25 rfl W.heap.size 3 i0 (.int .i64 0) 1 8 Try.underlying25 hi hz0 hz1 hz2 rfl (by decide) v1 (0 + q) ([] ++ xs.take (q * 1)) (by simp [Act.eval, Act.put]) hown1 A (n - (q + 1)) (cap - (q + 1)) (xs.drop ((q + 1) * 1)) (by simp [Act.eval, Act.put]) T1.out.2 (own_tail O1.out hq hnc kg A1.out) (N1.out ((q + 1) * 1)).2 (by unfold maxLen; omega) (by omega) (by have := hgrow1.size; simp at this; omega) ?_
       intro v2 w5 hown2 hgrow2 G2
       clear G2))
  all_goals
    have qo := own_out hq hgrow1 hown1 hgrow2 hown2
    unfold OnN
    exact ⟨_, _, _, _, _, _, _, _, _, _, _, rfl, qo.2, qo.1⟩
end Go.Proofs.Ytlpdemdakcjjjaa.W
