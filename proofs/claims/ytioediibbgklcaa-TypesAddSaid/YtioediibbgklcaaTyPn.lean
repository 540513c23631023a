/- ferruleref05.parts of a name: a struct's and an enum's types. -/
import Derived.Test.YtioediibbgklcaaTyPt
namespace Go.Proofs.Ytioediibbgklcaa.W
open Go Go.RowKit Go.Proofs
set_option linter.unusedVariables false
set_option linter.unusedSimpArgs false
theorem run_append_none {P : Program} (w : World) (base : Nat) (t ty e : TypeId) (i : TypeInfo) (size : Nat) (ht : P.underlying t = some (.slice e)) (hi : P.info? e = some i)
    (v : Value) (n : Nat) (xs : List Value) (hown : w.ownsRow base e size v n xs) (c : Nat) :
    (Builtin.append_ #[t, t] ty #[v, .slice none 0 c]).run P w = .ok v w := by
  rcases hown.2 with ⟨rfl, rfl⟩ | ⟨g, cap, cur, rfl, _, _, hnc, _⟩
  · simp [Builtin.append_, run_underlying ht, sizeOf, typeInfo, hi, Builtin.lenOf, Builtin.firstCells]
  · simp [Builtin.append_, run_underlying ht, sizeOf, typeInfo, hi, Builtin.lenOf, Builtin.firstCells, hnc, storeCells]
theorem wpList_append_none {P : Program} {ops : Array Oper} {rest : List Oper} {o : Oper} {a : Act} {w : World} {Q : Exit → Act → World → Prop} (hgd : o.guard = none) (s x : Operand) (t : TypeId)
    (ho : o.op = .call { callee := .builtin .append, args := #[s, x], argTypes := #[t, t] })
    (base : Nat) (e : TypeId) (i : TypeInfo) (size : Nat) (ht : P.underlying t = some (.slice e)) (hi : P.info? e = some i)
    (v : Value) (n : Nat) (xs : List Value) (hs : a.eval s = v) (hown : w.ownsRow base e size v n xs) (c : Nat) (hx : a.eval x = .slice none 0 c)
    (h : wpList P ops Q rest (a.put o.dst v) w) : wpList P ops Q (o :: rest) a w :=
  wpList_plain hgd fun _ hK => by
    have hr := run_append_none (P := P) w base t o.type e i size ht hi v n xs hown c
    unfold Oper.wp execOp
    simp only [ho, resolve, invoke, builtin, Sem.run_bind, Sem.run_pure, Result.andThen_ok, List.map_toArray, List.map_cons, List.map_nil, hs, hx, hr]
    exact hK _ _ h
theorem parts_named {its : List It} {t : Ty} (h9 : t.kind = 9) : (its.findIdx? (named? t.name) = none ∧ partsS its t = none) ∨ ∃ k it, its.findIdx? (named? t.name) = some k ∧ its[k]? = some it ∧ (it.kind = 2 ∨ it.kind = 3) ∧ partsS its t = if it.kind = 2 then some (it.ps.map Prod.snd) else some (it.vs.flatMap Prod.snd) := by
  have hp : partsS its t = (match itemOf its t with
    | none => none
    | some it => if it.kind = 2 then some (it.ps.map Prod.snd) else some (it.vs.flatMap Prod.snd)) := by
    unfold partsS; rw [if_neg (by omega), if_pos h9]; rfl
  rw [itemOf_eq, if_pos h9] at hp
  rcases find_idx (p := named? t.name) its with ⟨h1, h2⟩ | ⟨k, it, h1, h2, h3⟩
  · rw [h2] at hp
    exact .inl ⟨h1, hp⟩
  · rw [h3] at hp
    have hn : named? t.name it = true := List.find?_some h3
    have : it.kind = 2 ∨ it.kind = 3 := by
      unfold named? at hn
      simp only [Bool.and_eq_true, Bool.or_eq_true, beq_iff_eq] at hn
      exact hn.1
    exact .inr ⟨k, it, h1, h2, this, hp⟩
/-- What parts leaves behind, of a struct's fields so far. -/
theorem take_snd {α β : Type} (l : List (α × β)) (i : Nat) (p : α × β) (h : l[i]? = some p) : (l.take (i + 1)).map Prod.snd = (l.take i).map Prod.snd ++ [p.2] := by
  rw [List.take_add_one, h]
  simp
theorem take_flat {α β : Type} (l : List (α × List β)) (i : Nat) (p : α × List β) (h : l[i]? = some p) : (l.take (i + 1)).flatMap Prod.snd = (l.take i).flatMap Prod.snd ++ p.2 := by
  rw [List.take_add_one, h]
  simp
theorem flat_len {α β : Type} : ∀ (l : List (α × List β)), (∀ p ∈ l, p.2.length < 300) → (l.flatMap Prod.snd).length ≤ 300 * l.length
  | [], _ => by simp
  | p :: l, h => by
    have h1 := h p (by simp)
    have h2 := flat_len l (fun q hq => h q (by simp [hq]))
    simp only [List.flatMap_cons, List.length_append, List.length_cons]
    omega
set_option maxHeartbeats 4000000 in
set_option maxRecDepth 100000 in
/-- Types that are names. -/
theorem parts_name (W0 W : World) (hb : Below W0.heap.size W0 W) (la : Option Addr) (its : List It) (lc : Nat) (hn : its.length ≤ 9223372036854775807) (hI : ItsAt W0 la its) (hF : FewOf its) (t : Ty) (ea : Option Addr) (ec : Nat) (h9 : t.kind = 9) :
    Calls Try.prog 36 #[.slice la its.length lc, .agg (cells4of t ea ec).toArray] W fun e w' => PartsT W0 w' (partsS its t) e ∧ Below W.heap.size W w' := by
  have hcall := fun X hX => index_calls W0 X hX la its lc hn hI t.name
  have hpn := parts_named (its := its) h9
  have hlen := hF.len
  obtain ⟨nn, hnl⟩ : ∃ nn, its.length = nn := ⟨_, rfl⟩
  rw [hnl] at hcall hlen
  rw [hnl]
  have HN := Lib.hid hnl
  clear hn hnl
  go_enter Try.func36, Try.ntmps36
  go_upto_region 1 with fail
  have hb1 : Below W.heap.size W (W.alloc (.cells (cells4of t ea ec).toArray 26)) := (Below.refl _ _).alloc (Nat.le_refl _) _
  have hT1 := heap_alloc_new W (.cells (cells4of t ea ec).toArray 26)
  show Code.wp Try.prog _ _ _ (W.alloc (.cells (cells4of t ea ec).toArray 26))
  obtain ⟨w1, hw1⟩ : ∃ y, W.alloc (.cells (cells4of t ea ec).toArray 26) = y := ⟨_, rfl⟩
  rw [hw1] at hb1 hT1 ⊢
  have e0 : w1.cell? ⟨W.heap.size, 0, none⟩ = some (.int .i64 9) := by rw [cell_of_row _ _ _ _ 26 (0, 0) hT1]; show some (Value.int .i64 t.kind) = _; rw [h9]
  have e1 : w1.cell? ⟨W.heap.size, 1, none⟩ = some (.string t.name) := by rw [cell_of_row _ _ _ _ 26 (0, 0) hT1]; rfl
  have hc := hcall w1 (hb.trans (hb1.mono hb.size))
  clear hw1 hcall
  rcases hpn with ⟨hnf, hps⟩ | ⟨k, it, hf, hit, hkd, hps⟩
  · have H := Lib.hid hps
    rw [hnf] at hc
    clear hps hnf
    simp only [idxOf] at hc
    go_wp2_with (go_at_call 11; refine hc.mono ?_; rintro e w2 ⟨rfl, hb2⟩)
    exact bodyPost_ret (v := .tuple #[.slice none 0 0, .bool false]) (by simp [results, Try.results36, go_sem]) rfl ⟨partsT_no H.out ⟨_, rfl⟩, hb1.trans (hb2.mono hb1.size)⟩
  · rw [hf] at hc
    simp only [idxOf] at hc
    obtain ⟨b, o, cs, rfl, hl, hcs, hIt⟩ := hI k it hit
    have hsc := hF.each k it hit
    have hkn : k < nn := by have := (List.getElem?_eq_some_iff.1 hit).1; have := HN.out; omega
    obtain ⟨pa, pc, va, vc, _, q0, q1, q3, q4, _, _, hP, hV⟩ := hIt.heads
    have hk0 : ¬ ((k : Int) < 0) := by omega
    obtain ⟨i0, hi, hz0, hz1, hz2⟩ := info_parts info26
    have X0 := Lib.hid ((hcs 0 (by omega)).trans q0)
    have X3 := Lib.hid ((hcs 3 (by omega)).trans q3)
    have X4 := Lib.hid ((hcs 4 (by omega)).trans q4)
    clear hcs q0 q1 q3 q4 hIt hf
    obtain ⟨pn, hpn⟩ : ∃ pn, it.ps.length = pn := ⟨_, rfl⟩
    obtain ⟨vn, hvn⟩ : ∃ vn, it.vs.length = vn := ⟨_, rfl⟩
    have hps3 := hsc.ps
    have hvs3 := hsc.vs
    rw [hpn] at X3 hps3
    rw [hvn] at X4 hvs3
    have HP := Lib.hid hpn
    have HV := Lib.hid hvn
    clear hpn hvn
    have hB2 : ∀ {w2}, Below w1.heap.size w1 w2 → Below W.heap.size W w2 := fun h => hb1.trans (h.mono hb1.size)
    rcases hkd with h2 | h3
    · rw [if_pos h2] at hps
      have H := Lib.hid hps
      rw [h2] at X0
      clear hps
      go_wp2_with (go_at_call 11; refine hc.mono ?_; rintro e w2 ⟨rfl, hb2⟩)
      go_loopw [7, 8] (fun v i wr => ∃ j : Nat, i = .int .i64 j ∧ j ≤ pn ∧ Below w2.heap.size w2 wr ∧ OwnT W0 w2.heap.size wr v j ((it.ps.take j).map Prod.snd)) (fun _ i _ => pn - (intOf i).toNat)
      case atStart => exact ⟨0, rfl, Nat.zero_le _, Below.refl _ _, OwnT.nil _ _ _⟩
      case round =>
        obtain ⟨j, rfl, hj, hB, hO⟩ := hrel
        have hB1 := hB2 (hb2.trans (hB.mono hb2.size))
        have hB0 := hb.trans (hB1.mono hb.size)
        have x0 := keep_cell hB0 X0.out
        have x3 := keep_cell hB0 X3.out
        have x4 := keep_cell hB0 X4.out
        rw [Nat.add_zero] at x0
        by_cases hjn : j < pn
        · obtain ⟨p, hp⟩ : ∃ p, it.ps[j]? = some p := ⟨_, List.getElem?_eq_getElem (by have := HP.out; omega)⟩
          obtain ⟨b2, o2, mu, x, c0, c1, c2, c3, rfl, _, _, y0, y1, y2, y3, _, hu⟩ := hP j p hp
          obtain ⟨ua, uc, rfl, rfl, rfl, rfl, hul, _⟩ := hu.inv
          have z0 := keep_cell hB0 y0
          have z1 := keep_cell hB0 y1
          have z2 := keep_cell hB0 y2
          have z3 := keep_cell hB0 y3
          have hb7 : Below wr.heap.size wr (wr.alloc (.cells (cells4of p.2 ua uc).toArray 26)) := (Below.refl _ _).alloc (Nat.le_refl _) _
          have hO7 := hO.keep hb7
          obtain ⟨xs, ho1, ho2, ho3⟩ := hO7.ex
          go_wp2_with (refine wpList_append_own2 rfl (.tmp 47) (.tmp 57) 24 rfl w2.heap.size 26 i0 _ 4 56 Try.underlying24 hi hz0 hz1 hz2 rfl (by decide) _ j xs rfl ho1 ⟨wr.heap.size, 0, none⟩ 1 1 (cells4of p.2 ua uc) rfl rfl (lit_cells wr 26 (cells4of p.2 ua uc)) (cells4_one p.2 ua uc) (by unfold maxLen; omega) (by omega) (by have := hB.size; simp; omega) ?_; intro v8 w8 hown hgr hG)
          have hO8 := own_more ho1 ho2 ho3 (us := [p.2]) rfl (one_news hu) hown
          have hB8 := (hB.trans (hb7.mono hB.size)).grown hgr (by have := hB.size; simp; omega) (fun g hg => (ho1.lt g hg).1)
          go_roundw
          case rel => exact ⟨j + 1, by go_num, by omega, hB8, by rw [take_snd _ _ _ hp]; exact hO8⟩
          case measure => simp [intOf]; omega
        · obtain rfl : j = pn := by omega
          have hr := hO.row
          obtain ⟨vv, hvv⟩ : ∃ y, y = u7 := ⟨_, rfl⟩
          rw [← hvv] at hr ⊢
          clear hvv
          go_wp2
          go_loopw [7, 9] (fun v i wx => v = vv ∧ i = .int .i64 0 ∧ wx = wr) (fun _ _ _ => 0)
          case atStart => exact ⟨rfl, rfl, rfl⟩
          case round =>
            obtain ⟨rfl, rfl, rfl⟩ := hrel
            have htk : (it.ps.take j).map Prod.snd = it.ps.map Prod.snd := by rw [List.take_of_length_le (by have := HP.out; omega)]
            rw [htk] at hr
            by_cases hv0 : 0 < vn
            · go_wp2
              exact bodyPost_ret (v := .tuple #[u7, .bool true]) (by simp [results, Try.results36, go_sem]) rfl ⟨partsT_yes H.out ⟨_, rfl, hr⟩, hB1⟩
            · go_wp2
              exact bodyPost_ret (v := .tuple #[u7, .bool true]) (by simp [results, Try.results36, go_sem]) rfl ⟨partsT_yes H.out ⟨_, rfl, hr⟩, hB1⟩
    · rw [if_neg (by omega)] at hps
      have H := Lib.hid hps
      rw [h3] at X0
      clear hps
      go_wp2_with (go_at_call 11; refine hc.mono ?_; rintro e w2 ⟨rfl, hb2⟩)
      go_loopw [7, 8] (fun v i wr => v = .slice none 0 0 ∧ i = .int .i64 0 ∧ wr = w2) (fun _ _ _ => 0)
      case atStart => exact ⟨rfl, rfl, rfl⟩
      case round =>
        obtain ⟨rfl, rfl, hwr⟩ := hrel
        rw [hwr]
        clear hwr wr
        have hB20 := hb.trans ((hB2 hb2).mono hb.size)
        have x0 := keep_cell hB20 X0.out
        have x3 := keep_cell hB20 X3.out
        have x4 := keep_cell hB20 X4.out
        rw [Nat.add_zero] at x0
        by_cases hp0 : 0 < pn
        all_goals
          go_wp2
          go_loopw [7, 9] (fun v i wr => ∃ j n : Nat, i = .int .i64 j ∧ j ≤ vn ∧ n ≤ 300 * j ∧ Below w2.heap.size w2 wr ∧ OwnT W0 w2.heap.size wr v n ((it.vs.take j).flatMap Prod.snd)) (fun _ i _ => vn - (intOf i).toNat)
          case atStart => exact ⟨0, 0, rfl, Nat.zero_le _, Nat.zero_le _, Below.refl _ _, OwnT.nil _ _ _⟩
          case round =>
            obtain ⟨j, n, rfl, hj, hn3, hB, hO⟩ := hrel
            have hB1 := hB2 (hb2.trans (hB.mono hb2.size))
            have hB0 := hb.trans (hB1.mono hb.size)
            have x0 := keep_cell hB0 X0.out
            have x3 := keep_cell hB0 X3.out
            have x4 := keep_cell hB0 X4.out
            rw [Nat.add_zero] at x0
            by_cases hjn : j < vn
            · obtain ⟨p, hp⟩ : ∃ p, it.vs[j]? = some p := ⟨_, List.getElem?_eq_getElem (by have := HV.out; omega)⟩
              obtain ⟨b2, o2, tya, tc, x, rfl, _, y1, _, hyl, hyt⟩ := hV j p hp
              have z1 := keep_cell hB0 y1
              have hp3 := hsc.each j p hp
              have htf := take_flat _ _ _ hp
              obtain ⟨m, hm⟩ : ∃ m, p.2.length = m := ⟨_, rfl⟩
              rw [hm] at z1 hp3
              obtain ⟨xs, ho1, ho2, ho3⟩ := hO.ex
              cases tya with
              | none =>
                have hm0 : p.2 = [] := by
                  cases hpe : p.2 with
                  | nil => rfl
                  | cons t r => obtain ⟨_, _, _, _, _, _, h, _⟩ := hyt 0 t (by rw [hpe]; rfl); cases h
                rw [hm0] at hm htf
                obtain rfl : m = 0 := hm.symm
                rw [List.append_nil] at htf
                rw [← htf] at hO
                obtain ⟨xv, hxv⟩ : ∃ y, y = Value.slice none 0 tc := ⟨_, rfl⟩
                rw [← hxv] at z1
                have HXV := Lib.hid hxv
                clear hxv
                go_wp2_with (refine wpList_append_none rfl (.tmp 77) (.tmp 86) 24 rfl w2.heap.size 26 i0 4 Try.underlying24 hi u7 n xs rfl ho1 tc HXV.out ?_)
                go_roundw
                case rel => exact ⟨j + 1, n, by go_num, by omega, by omega, hB, hO⟩
                case measure => simp [intOf]; omega
              | some ad =>
                obtain ⟨news, n1, n2, n3, n4⟩ := many_news hB0 hyt
                have hu4 := hm
                rw [hm] at n1
                go_wp2_with (refine wpList_append_own2 rfl (.tmp 77) (.tmp 86) 24 rfl w2.heap.size 26 i0 _ 4 56 Try.underlying24 hi hz0 hz1 hz2 rfl (by decide) _ n xs rfl ho1 ad m tc news rfl n1 n2 n3 (by unfold maxLen; omega) (by omega) (by have := hB.size; omega) ?_; intro v8 w8 hown hgr hG)
                have hO8 := own_more ho1 ho2 ho3 (us := p.2) hu4 n4 hown
                have hB8 := hB.grown hgr hB.size (fun g hg => (ho1.lt g hg).1)
                rw [← htf] at hO8
                go_roundw
                case rel => exact ⟨j + 1, n + m, by go_num, by omega, by omega, hB8, hO8⟩
                case measure => simp [intOf]; omega
            · obtain rfl : j = vn := by omega
              have hr := hO.row
              have htk : (it.vs.take j).flatMap Prod.snd = it.vs.flatMap Prod.snd := by rw [List.take_of_length_le (by have := HV.out; omega)]
              rw [htk] at hr
              go_wp2
              exact bodyPost_ret (v := .tuple #[u7, .bool true]) (by simp [results, Try.results36, go_sem]) rfl ⟨partsT_yes H.out ⟨_, rfl, hr⟩, hB1⟩
theorem parts_calls (W0 W : World) (hb : Below W0.heap.size W0 W) (la : Option Addr) (its : List It) (lc : Nat) (hn : its.length ≤ 9223372036854775807) (hI : ItsAt W0 la its) (hF : FewOf its) (t : Ty) (ea : Option Addr) (ec : Nat) (hT : TyAt W0 (cells4of t ea ec) t) :
    Calls Try.prog 36 #[.slice la its.length lc, .agg (cells4of t ea ec).toArray] W fun e w' => PartsT W0 w' (partsS its t) e ∧ Below W.heap.size W w' := by
  by_cases h9 : t.kind = 9
  · exact parts_name W0 W hb la its lc hn hI hF t ea ec h9
  · exact parts_plain W0 W hb la its lc t ea ec hT h9
end Go.Proofs.Ytioediibbgklcaa.W
