/- HeapApart: the walk. -/
import Derived.Test.YtlpdemdakcjjjaaHpX1
import Derived.Test.YtlpdemdakcjjjaaHpO
namespace Go.Proofs.Ytlpdemdakcjjjaa.W
open Go Go.RowKit Go.Proofs Go.Proofs.Ytlpdemdakcjjjaa.Sx
set_option linter.unusedVariables false
set_option linter.unusedSimpArgs false
set_option maxHeartbeats 100000000 in
set_option maxRecDepth 100000 in
theorem apart_core (sa : Option Addr) (sn sc : Nat) (sf : Nat → Int) (fa : Option Addr) (fn fc : Nat) (ff : Nat → Int) (W : World)
    (hs : 0 < sn → ∃ b o, sa = some ⟨b, o, none⟩ ∧ ∀ j, j < sn → W.cell? ⟨b, o + j, none⟩ = some (.int .i64 (sf j)))
    (hf : 0 < fn → ∃ b o, fa = some ⟨b, o, none⟩ ∧ ∀ j, j < fn → W.cell? ⟨b, o + j, none⟩ = some (.int .i64 (ff j))) :
    Calls Try.prog 7 #[.slice sa sn sc, .slice fa fn fc] W fun e w' => e = .returned (.bool true) ∧ Below W.heap.size W w' := by
  go_enter Try.func7, Try.ntmps7
  go_wp2_with (go_at_call 13; refine (new_any _).mono ?_; rintro e W1 ⟨hb, bs, rfl, hI, hB1⟩)
  obtain ⟨i0, hi, hz0, hz1, hz2⟩ := info_parts info3
  have hHlt := hI.ltH
  have hBlt := hI.ltB
  have hB1s : W.heap.size ≤ W1.heap.size := hB1.size
  go_loopg [6, 7, 8, 9] 150 (fun g a l c i wx => ∃ (k : Nat) (u : Nat → Nat → Bool) (L : List (Nat × Nat)), k ≤ 150 ∧ k ≤ sn ∧ g = 150 - k ∧ i = .int .i64 k ∧ Held u L ∧ L.length ≤ k ∧ HpAt W.heap.size wx hb bs u ∧ Tri W1.heap.size wx a l c L ∧ Below W.heap.size W wx ∧ W1.heap.size ≤ wx.heap.size)
  case atStart => exact ⟨0, _, [], by omega, by omega, rfl, rfl, Held.none, by simp, hI, ⟨World.ownsRow_nil _ _ _ _, World.ownsRow_nil _ _ _ _, World.ownsRow_nil _ _ _ _, fun g h => by simp [Value.ownBlock] at h, fun g h => by simp [Value.ownBlock] at h, fun g h => by simp [Value.ownBlock] at h⟩, hB1, Nat.le_refl _⟩
  case round =>
    clear hI hB1
    obtain ⟨k, u, L, hk, hksn, rfl, rfl, hH, hLk, hI, hT, hB, hsz⟩ := hrel
    obtain ⟨w0, rfl⟩ : ∃ w0 : World, w0 = wr := ⟨_, rfl⟩
    by_cases hlt : k < sn ∧ k < 150
    · obtain ⟨h1, h2⟩ := hlt
      obtain ⟨sb, so, rfl, hsc⟩ := hs (by omega)
      have kc : w0.cell? ⟨sb, so + k, none⟩ = some (.int .i64 (sf k)) := (hB.cell (p := ⟨sb, so + k, none⟩) (cell_lt (hsc k h1))).trans (hsc k h1)
      have hw0 := i64_and127 (sf k)
      obtain ⟨w, hw⟩ : ∃ w, sf k % 128 = w := ⟨_, rfl⟩
      rw [hw] at hw0
      have hwb : 0 ≤ w ∧ w ≤ 128 := by omega
      clear hw
      obtain ⟨c, hc4, hcl⟩ := class_of w hwb.1 hwb.2
      have e1 : decide (szc c < w) = false := by have := inClass_le hc4 hcl; simp; omega
      obtain ⟨ao, ac, rfl, hao⟩ := own_shape hT.ra
      obtain ⟨lo, lc, rfl, hlo⟩ := own_shape hT.rl
      obtain ⟨co, cc, rfl, hco⟩ := own_shape hT.rc
      have HS := Lib.hid hs
      have HF := Lib.hid hf
      clear hs hf hsc
      go_wp2_with (go_at_call 8; refine (class_c hc4 hcl _).mono ?_; rintro e W2 ⟨rfl, hB2⟩)
      have hT2 := hT.below hB2
      have hI2 := hI.below hB2
      have hB02 := hB.trans (hB2.mono hB.size)
      have hsz2 : W1.heap.size ≤ W2.heap.size := by have := hB2.size; omega
      clear hT hI hB kc hB2 hsz
      go_loopg [15, 16] L.length (fun g lv iv wx => W2 = wx ∧ ∃ j : Nat, j ≤ L.length ∧ g = L.length - j ∧ iv = .int .i64 j ∧ lv = .int .i64 ((L.take j).countP (fun p => p.1 == c) : Nat))
      case atStart => exact ⟨rfl, 0, Nat.zero_le _, rfl, rfl, rfl⟩
      case round =>
        obtain ⟨rfl, j, hj, rfl, rfl, rfl⟩ := hrel
        by_cases hjl : j < L.length
        · obtain ⟨cg, rfl⟩ := hco (by omega)
          have kc : W2.cell? ⟨cg, j, none⟩ = some (.int .i64 (L[j]).1) := own_cell hT2.rc hjl (by simp [clL, hjl])
          have hcnt := take_cnt L c hjl
          have hle : (L.take j).countP (fun p => p.1 == c) ≤ j := by have := List.countP_le_length (p := fun p : Nat × Nat => p.1 == c) (l := L.take j); simp at this; omega
          generalize hqe : (L.take j).countP (fun p => p.1 == c) = q at hcnt hle
          have HQ := Lib.hid hcnt
          clear hcnt hqe
          cases e2 : (((L[j]).1 : Int) == (c : Int)) with
          | true =>
            rw [e2] at HQ
            go_wp2
            go_roundg (L.length - (j + 1))
            case measure => omega
            case rel => exact ⟨rfl, j + 1, by omega, rfl, by go_num, by rw [HQ.out]; go_num⟩
          | false =>
            rw [e2] at HQ
            go_wp2
            go_roundg (L.length - (j + 1))
            case measure => omega
            case rel => exact ⟨rfl, j + 1, by omega, rfl, by go_num, by rw [HQ.out]; go_num⟩
        · obtain rfl : j = L.length := by omega
          as_aux_lemma =>
            obtain ⟨m0, hm0⟩ : ∃ m, cnt (u c) (nb c) = m := ⟨_, rfl⟩
            have hLc := hH.count c hc4
            rw [hm0] at hLc
            rw [List.take_length, hLc]
            obtain ⟨x, f, u', bi, ok, hto, hAl⟩ := alloc_told hI2 hc4 hcl
            have hm0n : m0 ≤ nb c := by rw [← hm0]; exact cnt_le' _ _
            obtain ⟨m1, hm1⟩ : ∃ m, cnt (u' c) (nb c) = m := ⟨_, rfl⟩
            have hLv := fun X => live_c (B := W.heap.size) (hb := hb) (bs := bs) (u := u') hc4 hm1 X
            clear hLc hj hjl
            go_upto_region 19 with (go_at_call 9; refine hAl.mono ?_; rintro e W3 ⟨rfl, hI3, hF3⟩)
            have hT3 := hT2.fr hF3 (hBlt c hc4)
            have hB03 : Below W.heap.size W W3 := hB02.trans (hF3.below (hI2.newB c hc4) hB02.size)
            have hsz3 : W1.heap.size ≤ W3.heap.size := by have := hF3.size; omega
            clear hAl hT2 hI2 hB02 hsz2 hF3
            go_cut [94] (fun b wx => b = .bool false ∧ W3 = wx)
            case first =>
              as_aux_lemma =>
                cases ok with
                | false =>
                  obtain ⟨rfl, rfl, rfl, hm⟩ := hto.no rfl
                  have e1 : m1 = nb c := by omega
                  have e2 : m0 = nb c := by omega
                  clear hm0 hm1 hm hto
                  subst e1
                  subst e2
                  go_wp2_with (go_at_call 11; refine (hLv _ hI3).mono ?_; rintro e w1 ⟨rfl, rfl⟩)
                  go_meet
                  exact ⟨rfl, rfl⟩
                | true =>
                  obtain ⟨rfl, rfl, rfl, hi1, hi2⟩ := hto.yes rfl
                  have hlt := cnt_lt hi1 hi2
                  rw [hm0] at hlt
                  have hm2 := cnt_on u c bi hi2 (nb c)
                  rw [if_pos hi1, hm0, hm1] at hm2
                  have en : ((m0 : Int) == (nb c : Int)) = false := by simp; omega
                  have b1 : m1 ≤ m0 + 1 := by omega
                  have b2 : m0 ≤ m1 := by omega
                  have b3 : m1 ≤ 64 := by have := (nb_bd c).2; omega
                  have t78 : decide (1 < (m1 : Int) - (m0 : Int)) = false := by simp; omega
                  clear hm0 hm1 hto hm2
                  go_wp2_with (go_at_call 11; refine (hLv _ hI3).mono ?_; rintro e w1 ⟨rfl, rfl⟩)
                  go_meet
                  exact ⟨rfl, rfl⟩
            case rest =>
              obtain ⟨rfl, rfl⟩ := hcut
              go_upto_if 96 with fail
              go_cut [6, 7, 8] (fun a l cl wx => ∃ (LL : List (Nat × Nat)) (uu : Nat → Nat → Bool), LL.length ≤ k + 1 ∧ Held uu LL ∧ HpAt W.heap.size wx hb bs uu ∧ Tri W1.heap.size wx a l cl LL ∧ Below W.heap.size W wx ∧ W1.heap.size ≤ wx.heap.size)
              case first =>
                cases ok with
                | false =>
                  obtain ⟨rfl, rfl, rfl, _⟩ := hto.no rfl
                  go_wp2_with fail
                  go_meet
                  exact ⟨L, _, by omega, hH, hI3, hT3, hB03, hsz3⟩
                | true =>
                  as_aux_lemma =>
                    obtain ⟨rfl, rfl, rfl, hi1, hi2⟩ := hto.yes rfl
                    have hin := adr_in hc4 hi1
                    have hin4 : (adr c bi).tmod 4 = 0 := by rw [Int.tmod_eq_emod_of_nonneg (by omega)]; exact hin.2.2
                    have hz := @szc_pos c
                    have hWo := fun X => within_on (B := W.heap.size) (X := X) (hb := hb) (bs := bs) (u := u) hc4 hi1
                    obtain ⟨hin1, hin2, hin3⟩ := hin
                    obtain ⟨hz1', hz2'⟩ := hz
                    go_wp2_with (go_at_call 12; refine (hWo _ hI3).mono ?_; rintro e W4 ⟨rfl, hB4⟩)
                    have hT4 := hT3.below hB4
                    have hI4 := hI3.below hB4
                    have hB04 := hB03.trans (hB4.mono hB03.size)
                    have hsz4 : W1.heap.size ≤ W4.heap.size := by have := hB4.size; omega
                    clear hWo hI3 hT3 hB03 hsz3 hB4
                    go_loopg [19] L.length (fun g iv wx => Below W4.heap.size W4 wx ∧ ∃ j : Nat, j ≤ L.length ∧ g = L.length - j ∧ iv = .int .i64 j)
                    case atStart => exact ⟨Below.refl _ _, 0, Nat.zero_le _, rfl, rfl⟩
                    case round =>
                      obtain ⟨hBr, j, hj, rfl, rfl⟩ := hrel
                      obtain ⟨W5, rfl⟩ : ∃ y, y = wr := ⟨_, rfl⟩
                      have hT5 := hT4.below hBr
                      by_cases hjl : j < L.length
                      · as_aux_lemma =>
                          obtain ⟨ag, rfl⟩ := hao (by omega)
                          obtain ⟨lg, rfl⟩ := hlo (by omega)
                          obtain ⟨cg, rfl⟩ := hco (by omega)
                          obtain ⟨d, hd⟩ : ∃ d, (L[j]).1 = d := ⟨_, rfl⟩
                          obtain ⟨m, hm⟩ : ∃ m, (L[j]).2 = m := ⟨_, rfl⟩
                          have hmem : (d, m) ∈ L := by rw [← hd, ← hm]; exact List.getElem_mem hjl
                          have hd4 : d < 4 := (hH.rng _ hmem).1
                          have hmn : m < nb d := (hH.rng _ hmem).2
                          have hne : ¬ (c = d ∧ bi = m) := by
                            rintro ⟨rfl, rfl⟩
                            have := (hH.mem _ _ hd4 hmn).2 hmem
                            rw [hi2] at this; cases this
                          have k1 : W5.cell? ⟨ag, j, none⟩ = some (.int .i64 (adr d m)) := own_cell hT5.ra hjl (by simp [atL, hjl, hd, hm])
                          have k2 : W5.cell? ⟨lg, j, none⟩ = some (.int .i64 (szc d)) := own_cell hT5.rl hjl (by simp [loL, hjl, hd])
                          have hap := adr_apart hc4 hd4 hi1 hmn hne
                          have hz3 := @szc_pos d
                          have hin5 := adr_in hd4 hmn
                          obtain ⟨y, hye⟩ : ∃ y, adr d m = y := ⟨_, rfl⟩
                          obtain ⟨s2, hs2⟩ : ∃ s2, szc d = s2 := ⟨_, rfl⟩
                          rw [hye] at k1 hap hin5
                          rw [hs2] at k2 hap hz3 hin5
                          clear hye hs2 hmem hd hm
                          obtain ⟨hz3a, hz3b⟩ := hz3
                          obtain ⟨hin5a, hin5b, hin5c⟩ := hin5
                          have hjz : (j : Int) < (L.length : Int) := by omega
                          have m1 : IntKind.i64.wrap (4 * s2) = 4 * s2 := wr64 _ (by omega) (by omega)
                          have m2 : IntKind.i64.wrap (4 * szc c) = 4 * szc c := wr64 _ (by omega) (by omega)
                          have m3 : IntKind.i64.wrap (y + 4 * s2) = y + 4 * s2 := wr64 _ (by omega) (by omega)
                          have m4 : IntKind.i64.wrap (adr c bi + 4 * szc c) = adr c bi + 4 * szc c := wr64 _ (by omega) (by omega)
                          rcases hap with hap | hap
                          · have t1 : adr c bi < y + 4 * s2 := by omega
                            have t2 : decide (y < adr c bi + 4 * szc c) = false := by simp; omega
                            go_upto_region 27 with fail
                            go_quiet (fail)
                            go_wp2
                            go_roundg (L.length - (j + 1))
                            case measure => omega
                            case rel => exact ⟨⟨hBr.os, hBr.tape, hBr.output, hBr.size, hBr.block⟩, j + 1, by omega, rfl, by go_num⟩
                          · have t1 : decide (adr c bi < y + 4 * s2) = false := by simp; omega
                            go_upto_region 27 with fail
                            go_quiet (fail)
                            go_wp2
                            go_roundg (L.length - (j + 1))
                            case measure => omega
                            case rel => exact ⟨⟨hBr.os, hBr.tape, hBr.output, hBr.size, hBr.block⟩, j + 1, by omega, rfl, by go_num⟩
                      · obtain rfl : j = L.length := by omega
                        as_aux_lemma =>
                          have hI5 := hI4.below hBr
                          have hB05 := hB04.trans (hBr.mono hB04.size)
                          have hsz5 : W1.heap.size ≤ W5.heap.size := by have := hBr.size; omega
                          have la := hT5.ra.lt
                          have ll := hT5.rl.lt
                          have lcc := hT5.rc.lt
                          have HT := Lib.hid hT5
                          clear hT4 hI4 hB04 hsz4 hBr hT5
                          go_wp2_with (first
                            | (at_builtin; refine wpList_append_own2 rfl (.tmp 147) (.tmp 149) 25 rfl W1.heap.size 3 i0 (.int .i64 0) 1 8 Try.underlying25 hi hz0 hz1 hz2 rfl (by decide) (.slice ao L.length ac) L.length (atL L) rfl (HT.out.ra.alloc _) ⟨W5.heap.size, 0, none⟩ 1 1 [.int .i64 (adr c bi)] rfl rfl (by intro j u hj; match j, hj with | 0, hj => simp at hj; subst hj; simp [Addr.add] | 1, hj => simp at hj) (by intro u hu; simp at hu; subst hu; rfl) (by unfold maxLen; omega) (by omega) (by simp; omega) ?_; intro v1 w1 o1 g1 f1; have s1 : W5.heap.size + 1 ≤ w1.heap.size := (by have := g1.size; simpa using this))
                            | (at_builtin; refine wpList_append_own2 rfl (.tmp 151) (.tmp 153) 25 rfl W1.heap.size 3 i0 (.int .i64 0) 1 8 Try.underlying25 hi hz0 hz1 hz2 rfl (by decide) (.slice lo L.length lc) L.length (loL L) rfl ((own_keep HT.out.rl fun g h1 h2 h3 => (g1.block g (by simp; omega) (fun e => HT.out.al g e.symm h3)).trans (Below.heap_alloc W5 _ g h2)).alloc _) ⟨w1.heap.size, 0, none⟩ 1 1 [.int .i64 (szc c)] rfl rfl (by intro j u hj; match j, hj with | 0, hj => simp at hj; subst hj; simp [Addr.add] | 1, hj => simp at hj) (by intro u hu; simp at hu; subst hu; rfl) (by unfold maxLen; omega) (by omega) (by simp; omega) ?_; intro v2 w2 o2 g2 f2; have s2 : w1.heap.size + 1 ≤ w2.heap.size := (by have := g2.size; simpa using this))
                            | (at_builtin; refine wpList_append_own2 rfl (.tmp 155) (.tmp 157) 25 rfl W1.heap.size 3 i0 (.int .i64 0) 1 8 Try.underlying25 hi hz0 hz1 hz2 rfl (by decide) (.slice co L.length cc) L.length (clL L) rfl ((own_keep (own_keep HT.out.rc fun g h1 h2 h3 => (g1.block g (by simp; omega) (fun e => HT.out.ac g e.symm h3)).trans (Below.heap_alloc W5 _ g h2)) fun g h1 h2 h3 => (g2.block g (by simp; omega) (fun e => HT.out.lc g e.symm h3)).trans (Below.heap_alloc w1 _ g h2)).alloc _) ⟨w2.heap.size, 0, none⟩ 1 1 [.int .i64 (c : Int)] rfl rfl (by intro j u hj; match j, hj with | 0, hj => simp at hj; subst hj; simp [Addr.add] | 1, hj => simp at hj) (by intro u hu; simp at hu; subst hu; rfl) (by unfold maxLen; omega) (by omega) (by simp; omega) ?_; intro v3 w3 o3 g3 f3; have s3 : w2.heap.size + 1 ≤ w3.heap.size := (by have := g3.size; simpa using this)))
                          go_meet
                          obtain ⟨r1, r2, r3, r4⟩ := tri_push (p := (c, bi)) HT.out hsz5 o1 g1 f1 o2 g2 f2 o3 g3 f3
                          refine ⟨L ++ [(c, bi)], upd u c bi true, by simp; omega, hH.add hc4 hi1 hi2, hI5.keep r2 (r3 _ hHlt) (fun d hd => r3 _ (hBlt d hd)), r1, ?_, by omega⟩
                          exact hB05.trans ⟨r4.1, r4.2.1, r4.2.2, r2, fun g hg => r3 g (by have := hB1s; omega)⟩
              case rest =>
                obtain ⟨LL, uu, hnk, hHt, hIt, hTt, hBt, hst⟩ := hcut
                obtain ⟨Wx, rfl⟩ : ∃ y, y = wc := ⟨_, rfl⟩
                clear hH hT3 hI3 hB03 hsz3 hto hao hlo hco hLk hm0 hm0n hm1 hLv
                obtain ⟨n, hN⟩ : ∃ n, LL.length = n := ⟨_, rfl⟩
                obtain ⟨ao2, gac, e6, hao2⟩ := own_shape hTt.ra
                obtain ⟨lo2, glc, e7, hlo2⟩ := own_shape hTt.rl
                obtain ⟨co2, gcc, e8, hco2⟩ := own_shape hTt.rc
                subst e6 e7 e8
                rw [hN] at hTt hao2 hlo2 hco2 hnk
                rw [hN]
                have HN := Lib.hid hN
                clear hN
                as_aux_lemma =>
                  by_cases hfk : k < fn
                  · obtain ⟨fb, fo, rfl, hfc⟩ := HF.out (by omega)
                    have kf : Wx.cell? ⟨fb, fo + k, none⟩ = some (.int .i64 (ff k)) := (hBt.cell (p := ⟨fb, fo + k, none⟩) (cell_lt (hfc k hfk))).trans (hfc k hfk)
                    clear hfc HF
                    obtain ⟨y, hy⟩ : ∃ y, bits BinOp.and IntKind.i64 (ff k) 3 = y := ⟨_, rfl⟩
                    cases ey : (y == 0) with
                    | true =>
                      by_cases hn0 : 0 < n
                      · as_aux_lemma =>
                          obtain ⟨ga, rfl⟩ := hao2 hn0
                          obtain ⟨gl, rfl⟩ := hlo2 hn0
                          obtain ⟨gc, rfl⟩ := hco2 hn0
                          obtain ⟨q, hq, hqe⟩ := turn_of (ff k) n (by omega) (by omega)
                          have hqL : q < LL.length := by have := HN.out; omega
                          obtain ⟨pc, hpc⟩ : ∃ pc, (LL[q]).1 = pc := ⟨_, rfl⟩
                          obtain ⟨pk, hpk⟩ : ∃ pk, (LL[q]).2 = pk := ⟨_, rfl⟩
                          have hmem : (pc, pk) ∈ LL := by rw [← hpc, ← hpk]; exact List.getElem_mem hqL
                          have hpc4 : pc < 4 := (hHt.rng _ hmem).1
                          have hpkn : pk < nb pc := (hHt.rng _ hmem).2
                          have hup := (hHt.mem pc pk hpc4 hpkn).2 hmem
                          have hcutH : Held (upd uu pc pk false) (LL.take q ++ LL.drop (q + 1)) := by have := hHt.cutAt hqL; rw [hpc, hpk] at this; exact this
                          have hbg : Begins uu (adr pc pk) pc pk := ⟨hpc4, hpkn, hup, rfl⟩
                          have kat : ∀ X, Tri W1.heap.size X (.slice (some ⟨ga, 0, none⟩) n gac) (.slice (some ⟨gl, 0, none⟩) n glc) (.slice (some ⟨gc, 0, none⟩) n gcc) LL → X.cell? ⟨ga, q, none⟩ = some (.int .i64 (adr pc pk)) := fun X h => by
                            have h2 := h.ra
                            rw [HN.out] at h2
                            exact own_cell h2 hq (by simp [atL, hqL, hpc, hpk])
                          have ka := kat _ hTt
                          have hbpc := hBlt pc hpc4
                          go_upto_region 34 with (first
                            | (go_at_call 10; refine (free_yes hIt hbg).mono ?_; rintro e w4 ⟨rfl, hI4, hF4⟩; have hT4 := hTt.fr hF4 hbpc; have kb := kat _ hT4)
                            | (go_at_call 10; refine (free_no hI4 (adr pc pk) (begins_off hpc4 hpkn)).mono ?_; rintro e w5 ⟨rfl, hb5⟩; have hT5 := hT4.below hb5; have hI5 := hI4.below hb5; have kd := kat _ hT5)
                            | (go_at_call 12; refine (within_off hpc4 hpkn hI5).mono ?_; rintro e w6 ⟨rfl, hb6⟩))
                          have hT6 := hT5.below hb6
                          have hI6 := hI5.below hb6
                          have hB6 : Below W.heap.size W w6 := by
                            have t1 : Below W.heap.size Wx w4 := hF4.below (hIt.newB pc hpc4) hBt.size
                            have t2 := hb5.mono (B' := W.heap.size) (by have := hBt.size; have := hF4.size; omega)
                            have t3 := hb6.mono (B' := W.heap.size) (by have := hBt.size; have := hF4.size; have := hb5.size; omega)
                            exact hBt.trans (t1.trans (t2.trans t3))
                          have hsz6 : W1.heap.size ≤ w6.heap.size := by have := hF4.size; have := hb5.size; have := hb6.size; omega
                          have hw1 : IntKind.i64.wrap ((q : Int) + 1) = (q : Int) + 1 := wr64 _ (by omega) (by omega)
                          have hp0 : (0 : Int) ≤ (q : Int) + 1 := by omega
                          have hp1 : (q : Int) + 1 ≤ (n : Int) := by omega
                          have hp2 : ((q : Int) + 1).toNat = q + 1 := by omega
                          clear ka kb kd kat hbg hpc hpk hmem hup hqe hIt hTt hHt hI4 hF4 hT4 hb5 hI5 hT5 hb6
                          go_upto_region 34 with fail
                          refine wp_onN (region34 _ _ _ _ _ _ _ _ _ _ _ _ _ _ _ _ _ _ _ _ _ _ _ _ _ _ _ _ _ _ _ _ _ _ _ _ _ _ _ _ _ _ _ _ _ _ _ _ _ _ _ _ _ _ _ _ _ _ _ _ _ _ _ _ _ _ _ _ _ _ _ _ _ _ _ _ _ _ _ _ _ _ _ _ _ _ _ _ _ _ _ _ _ _ _ _ _ _ _ _ _ _ _ _ _ _ _ _ _ _ _ _ _ _ _ _ _ _ _ _ _ _ _ _ _ _ _ _ _ _ _ _ _ _ _ _ _ _ _ _ _ _ _ _ _ _ _ _ _ _ _ _ _ _ _ _ _ _ _ _ _ _ _ _ _ _ _ _ _ _ _ _ _ _ _ _ _ _ _ _ _ _ _ _ _ _ _ _ _ _ _ _ _ _ _ _ _ _ _ _ _ _ _ _ _ _ _ _ _ _ _ _ _ _ _ _ _ _ _ _ _ _ _ _ _ _ _ _ _ _ _ _ _ _ _ _ _ _ _ _ _ ga gac n q W1.heap.size (atL LL) w6 (by have := hT6.ra; rw [HN.out] at this; exact this) (by unfold atL; intro u hu; obtain ⟨_, _, rfl⟩ := List.mem_map.1 hu; rfl) hq (by omega)) ?_
                          rintro a' wA ⟨v34, s213, s214, s215, s216, s217, s218, s219, s220, s221, s222, rfl, qao, qab⟩
                          go_upto_region 35 with fail
                          refine wp_onN (region35 _ _ _ _ _ _ _ _ _ _ _ _ _ _ _ _ _ _ _ _ _ _ _ _ _ _ _ _ _ _ _ _ _ _ _ _ _ _ _ _ _ _ _ _ _ _ _ _ _ _ _ _ _ _ _ _ _ _ _ _ _ _ _ _ _ _ _ _ _ _ _ _ _ _ _ _ _ _ _ _ _ _ _ _ _ _ _ _ _ _ _ _ _ _ _ _ _ _ _ _ _ _ _ _ _ _ _ _ _ _ _ _ _ _ _ _ _ _ _ _ _ _ _ _ _ _ _ _ _ _ _ _ _ _ _ _ _ _ _ _ _ _ _ _ _ _ _ _ _ _ _ _ _ _ _ _ _ _ _ _ _ _ _ _ _ _ _ _ _ _ _ _ _ _ _ _ _ _ _ _ _ _ _ _ _ _ _ _ _ _ _ _ _ _ _ _ _ _ _ _ _ _ _ _ _ _ _ _ _ _ _ _ _ _ _ _ _ _ _ _ _ _ _ _ _ _ _ _ _ _ _ _ _ _ _ _ _ _ _ _ _ gl glc n q W1.heap.size (loL LL) wA (by have := (hT6.below qab).rl; rw [HN.out] at this; exact this) (by unfold loL; intro u hu; obtain ⟨_, _, rfl⟩ := List.mem_map.1 hu; rfl) hq (by omega)) ?_
                          rintro a' wB ⟨v35, s223, s224, s225, s226, s227, s228, s229, s230, s231, s232, rfl, qlo, qlb⟩
                          go_upto_region 36 with fail
                          refine wp_onN (region36 _ _ _ _ _ _ _ _ _ _ _ _ _ _ _ _ _ _ _ _ _ _ _ _ _ _ _ _ _ _ _ _ _ _ _ _ _ _ _ _ _ _ _ _ _ _ _ _ _ _ _ _ _ _ _ _ _ _ _ _ _ _ _ _ _ _ _ _ _ _ _ _ _ _ _ _ _ _ _ _ _ _ _ _ _ _ _ _ _ _ _ _ _ _ _ _ _ _ _ _ _ _ _ _ _ _ _ _ _ _ _ _ _ _ _ _ _ _ _ _ _ _ _ _ _ _ _ _ _ _ _ _ _ _ _ _ _ _ _ _ _ _ _ _ _ _ _ _ _ _ _ _ _ _ _ _ _ _ _ _ _ _ _ _ _ _ _ _ _ _ _ _ _ _ _ _ _ _ _ _ _ _ _ _ _ _ _ _ _ _ _ _ _ _ _ _ _ _ _ _ _ _ _ _ _ _ _ _ _ _ _ _ _ _ _ _ _ _ _ _ _ _ _ _ _ _ _ _ _ _ _ _ _ _ _ _ _ _ _ _ _ gc gcc n q W1.heap.size (clL LL) wB (by have := ((hT6.below qab).below qlb).rc; rw [HN.out] at this; exact this) (by unfold clL; intro u hu; obtain ⟨_, _, rfl⟩ := List.mem_map.1 hu; rfl) hq (by omega)) ?_
                          rintro a' wC ⟨v36, s233, s234, s235, s236, s237, s238, s239, s240, s241, s242, rfl, qco, qcb⟩
                          have hTn := tri_cut hT6 hqL hsz6 qab (by rw [HN.out]; exact qao) qlb (by rw [HN.out]; exact qlo) qcb (by rw [HN.out]; exact qco)
                          go_wp2_with fail
                          go_roundg (150 - (k + 1))
                          case measure => omega
                          case rel => exact ⟨k + 1, upd uu pc pk false, LL.take q ++ LL.drop (q + 1), by omega, by omega, rfl, by go_num, hcutH, by have := HN.out; simp; omega, (hI6.below hTn.2), hTn.1, hB6.trans (hTn.2.mono hB6.size), by have := hTn.2.size; omega⟩
                      · obtain rfl : n = 0 := by omega
                        as_aux_lemma =>
                          go_wp2
                          go_roundg (150 - (k + 1))
                          case measure => omega
                          case rel => exact ⟨k + 1, uu, LL, by omega, by omega, rfl, by go_num, hHt, by have := HN.out; omega, hIt, hTt, hBt, hst⟩
                    | false =>
                      as_aux_lemma =>
                        go_wp2
                        go_roundg (150 - (k + 1))
                        case measure => omega
                        case rel => exact ⟨k + 1, uu, LL, by omega, by omega, rfl, by go_num, hHt, by have := HN.out; omega, hIt, hTt, hBt, hst⟩
                  · as_aux_lemma =>
                      go_wp2
                      go_roundg (150 - (k + 1))
                      case measure => omega
                      case rel => exact ⟨k + 1, uu, LL, by omega, by omega, rfl, by go_num, hHt, by have := HN.out; omega, hIt, hTt, hBt, hst⟩
    · by_cases h1 : k < sn
      · obtain rfl : k = 150 := by omega
        go_wp2
        go_ret
        exact ⟨rfl, hB⟩
      · go_wp2
        go_ret
        exact ⟨rfl, hB⟩
theorem apart_walk {H : Type} {enc : TypeId × Value → H} {W' : World} {base : Nat} {d0 d1 : DataW H} {p0 p1 : List MemPlace} (v0 : Value) (hv0 : Value.okWide Try.prog W' .any base 25 v0) (h0 : DataW.Trod enc Try.prog W' 0 (fun _ => true) true 25 v0 d0 p0)
    (v1 : Value) (hv1 : Value.okWide Try.prog W' .any base 25 v1) (h1 : DataW.Trod enc Try.prog W' 0 (fun _ => true) true 25 v1 d1 p1) (W : World) (e : W = W') :
    Calls Try.prog 7 #[v0, v1] W fun e w' => e = .returned (.bool true) ∧ Below W.heap.size W w' := by
  subst e
  obtain ⟨a0, n0, c0, f0, rfl, g0⟩ := open_nums hv0 h0
  obtain ⟨a1, n1, c1, f1, rfl, g1⟩ := open_nums hv1 h1
  exact apart_core a0 n0 c0 f0 a1 n1 c1 f1 W g0.lies g1.lies
end Go.Proofs.Ytlpdemdakcjjjaa.W
