/-
  The law QAD: its walk.
-/
import Derived.Test.YmwhbgQadC
import Derived.Test.YmwhbgQaf
namespace Go.Proofs.Ymwhbg
open Go.RowKit
set_option linter.unusedVariables false
set_option linter.unusedSimpArgs false

theorem duo_put {w0 w : World} {cb : Nat} {cp : Int} {N : Nat} {mc mm : List (Int × Int)} {v : Value} (k x : Int) (T : Duo w0 w cb cp N mc v mm) (hN : N ≤ 80000) :
    Calls Ybgv.prog 11 #[.pointer (some ⟨cb, 0, none⟩), .int .i64 k, .int .i64 x] w fun e w' =>
      e = .returned (.tuple #[.agg #[.int .i64 (pOut cp mc k x).1.1, .int .i64 (pOut cp mc k x).1.2], .bool (pOut cp mc k x).2]) ∧ Duo w0 w' cb cp (N + 1) (mPut cp mc k x) v mm := by
  obtain ⟨nv, n, f, I, hn, E, hs, b⟩ := T
  refine (put_any k x I (by omega)).mono ?_
  rintro e w' ⟨rfl, ⟨nv', n', f', I', hn', hf⟩, g⟩
  exact ⟨rfl, duo_step I E hs b I' (by omega) g hf⟩
theorem Duo.capCell {w0 w : World} {cb : Nat} {cp : Int} {N : Nat} {mc mm : List (Int × Int)} {v : Value} (T : Duo w0 w cb cp N mc v mm) : w.cell? ⟨cb, 5, none⟩ = some (.int .i64 cp) := by
  obtain ⟨nv, n, f, I, hn, E, hs, b⟩ := T
  obtain ⟨K, V, P, X, L, F, c, r, rfl, d, l⟩ := I
  exact c.c5

theorem Duo.cbLt {w0 w : World} {cb : Nat} {cp : Int} {N : Nat} {mc mm : List (Int × Int)} {v : Value} (T : Duo w0 w cb cp N mc v mm) : cb < w.heap.size := by
  obtain ⟨nv, n, f, I, hn, E, hs, b⟩ := T
  exact (I.own_lt cb (.inl rfl)).2

set_option maxHeartbeats 4000000 in
set_option maxRecDepth 100000 in
theorem qad_any (cs key val : Int) (a : Option Addr) (len c2 : Nat) (f0 f1 f2 : Nat → Int) (w : World) (ho : Ops3 .u8 .i64 .i64 w a len f0 f1 f2) (hcs : 0 ≤ cs ∧ cs ≤ 255) (h0 : ∀ k, k < len → 0 ≤ f0 k ∧ f0 k ≤ 255) :
    Calls Ybgv.prog 9 #[.int .u8 cs, .slice a len c2, .int .i64 key, .int .i64 val] w fun e w' => e = .returned (.bool true) ∧ Below w.heap.size w w' := by
  obtain ⟨hcs1, hcs2⟩ := hcs
  by_cases hlen : len ≤ 1024
  · have hl : ¬ ((1024 : Int) < (len : Int)) := by omega
    have HO := hide ho
    have H0 := hide h0
    obtain ⟨i0, hi, hz0, hz1, hz2⟩ := info_parts Ybgv.info29
    clear ho h0
    go_enter Ybgv.func9, Ybgv.ntmps9
    go_wp2_with fail
    refine (new_any (cs % 9) w w.heap.size (Nat.le_refl _)).mono ?_
    rintro e w1 ⟨rfl, I1, b1⟩
    rw [show max (cs % 9) 0 = cs % 9 by omega] at I1
    have T0 := hide (duo_new I1 b1)
    clear I1 b1
    have hcp0 : 0 ≤ cs % 9 := by omega
    have hcp9 : cs % 9 ≤ 9 := by omega
    generalize cs % 9 = cp at *
    obtain ⟨c, rfl⟩ := Int.eq_ofNat_of_zero_le hcp0
    go_wp2_with (at_make; refine wpList_make_own _ rfl _ _ 25 rfl w1.heap.size 29 i0 (.agg #[.int .i64 0, .int .i64 0]) 2 Ybgv.underlying25 hi hz0 hz1 _ _ _ 0 rfl rfl (by omega) (by rw [hz2]; omega) (by unfold maxLen; omega) (Nat.le_refl _) ?_)
    intro w0 hown0 hgrow0
    have T1 := hide (T0.out.step ((Below.refl w1.heap.size w1).grown hgrow0 (Nat.le_refl _) (fun k hk => by cases hk)) (show EntB w0 w1.heap.size (.slice (some ⟨w1.heap.size, 0, none⟩) 0 0) [] from hown0))
    clear hown0 hgrow0 T0 hi hz0 hz1 hz2
    go_wp2
    go_loopw [11, 12] (fun v i wr => ∃ (k : Nat) (m : List (Int × Int)), k ≤ len ∧ i = .int .i64 k ∧ Duo w wr w.heap.size c k m v m) (fun _ i _ => len - (intOf i).toNat)
    case atStart => exact ⟨0, [], Nat.zero_le _, rfl, T1.out⟩
    case round =>
        clear T1
        obtain ⟨k, m, hk, rfl, T⟩ := hrel
        obtain ⟨a', cap', b', rfl, ha', _, _, hlc⟩ := T.ent.form
        have HA := hide ha'
        clear ha'
        obtain ⟨tl1, tl2⟩ := T.len
        by_cases hlt : k < len
        · have hlt' : (k : Int) < (len : Int) := by omega
          obtain ⟨b, off, rfl, hb, g0, g1, g2⟩ := HO.out k hlt
          obtain ⟨z1, z2⟩ := H0.out k hlt
          have g0' := (T.below.cell (p := ⟨b, off + k * 3, none⟩) hb).trans g0
          have g1' := (T.below.cell (p := ⟨b, off + k * 3 + 1, none⟩) hb).trans g1
          have g2' := (T.below.cell (p := ⟨b, off + k * 3 + 2, none⟩) hb).trans g2
          clear g0 g1 g2
          have HT := hide (T.loc (.cells #[.int .u8 (f0 k), .int .i64 (f1 k), .int .i64 (f2 k)] 80))
          have HD := hide T.dis
          clear T
          by_cases q0 : f0 k % 4 = 0
          · have q0b : (f0 k % 4 == 0) = true := by simp [q0]
            clear q0
            go_wp2_with fail
            refine (two_put (f1 k) (f2 k) HT.out (by omega)).mono ?_
            rintro e w2 ⟨rfl, T1⟩
            obtain ⟨l0, l1, l2⟩ := loc_cells T1.loc
            have HT1 := hide T1
            have hbs := T1.below.size
            clear T1 HT
            go_wp2_with fail
            refine (put42_any c (f1 k) (f2 k) HT1.out.ent hbs HD.out (by omega) (by omega)).mono ?_
            rintro e w3 ⟨v3, rfl, R3⟩
            have HT5 := hide (HT1.out.res R3).duo
            clear HT1 R3 l0 l1 l2 hbs
            go_wp2
            go_roundw
            case rel => exact ⟨k + 1, _, by omega, by go_num, (HT5.out.mono (by omega)).to (rfl)⟩
            case measure => simp [intOf]; omega
          have q0b : (f0 k % 4 == 0) = false := by simp [q0]
          by_cases q1 : f0 k % 4 = 1
          · have q1b : (f0 k % 4 == 1) = true := by simp [q1]
            clear q0 q1
            go_wp2_with fail
            refine (two_get (f1 k) HT.out (by omega)).mono ?_
            rintro e w2 ⟨rfl, T1⟩
            obtain ⟨l0, l1, l2⟩ := loc_cells T1.loc
            have HT1 := hide T1
            clear T1 HT
            go_wp2_with fail
            refine (idx43_any (f1 k) HT1.out.ent (by omega)).mono ?_
            rintro e w3 ⟨rfl, rfl⟩
            rcases hasK_cases m (f1 k) HD.out with ⟨k1, k2, k3, k4⟩ | ⟨j, e, k1, k2, k3, k4, k5⟩
            · rw [k2]
              have HG := hide (mGet_miss k1).symm
              have HT5 := hide HT1.out.duo
              clear k1 k2 k3 k4 HT1 l0 l1 l2
              go_wp2
              go_roundw
              case rel => exact ⟨k + 1, _, by omega, by go_num, (HT5.out.mono (by omega)).to (HG.out)⟩
              case measure => simp [intOf]; omega
            · rw [k2]
              subst k4
              have HG := hide (mGet_hit k1).symm
              have K5 := hide k5
              have hjlt := (List.getElem?_eq_some_iff.1 k3).1
              obtain rfl := HA.out (by omega)
              obtain ⟨p1, p2⟩ := HT1.out.ent.cells k3
              have hbl := (HT1.out.ent.lt b' rfl).2
              have P1 := hide p1
              have P2 := hide p2
              have hdl : (del m (f1 k)).length ≤ 50000 := Nat.le_trans (List.length_filter_le _ _) (by omega)
              clear k1 k2 k3 k5 l0 l1 l2
              go_wp2_with fail
              go_region_with (first
                | (go_at_call 45; (refine (del45_any (j : Int) (base := w.heap.size) (m := m) HT1.out.ent.drew ?_).mono ?_; omega; rintro e w4 ⟨v4, rfl, E4, b4⟩; rw [K5.out] at E4; have p1' := (b4.cell (p := ⟨b', j * 2, none⟩) hbl).trans P1.out; have p2' := (b4.cell (p := ⟨b', j * 2 + 1, none⟩) hbl).trans P2.out; have hs4 := b4.size; have HE4 := hide E4; have HB4 := hide b4; clear E4 b4))
                | (go_at_call 44; (refine (front44_any (f1 k) (valOf m (f1 k)) HE4.out ?_).mono ?_; omega; rintro e w5 ⟨v5, rfl, E5, b5⟩; have HE5 := hide E5; have HB5 := hide b5; clear E5 b5)))
              all_goals
                have T5 := (HT1.out.model (((Below.refl _ _).drew.trans HB4.out).trans (HB5.out.mono hs4)) (HE5.out.down hs4)).duo
                have HT5 := hide T5
                have HT6 := hide (T5.keep (Below.refl _ _).drew)
                clear T5 HE5 HB5 HE4 HB4 HT1 p1' p2'
                go_wp2
                go_roundw
                case rel => exact ⟨k + 1, _, by omega, by go_num, (by first | exact (HT5.out.mono (by omega)).to (HG.out) | exact (HT6.out.mono (by omega)).to (HG.out))⟩
                case measure => simp [intOf]; omega
          have q1b : (f0 k % 4 == 1) = false := by simp [q1]
          by_cases q2 : f0 k % 4 = 2
          · have q2b : (f0 k % 4 == 2) = true := by simp [q2]
            clear q0 q1 q2
            go_wp2_with fail
            refine (two_rem (f1 k) HT.out (by omega)).mono ?_
            rintro e w2 ⟨rfl, T1⟩
            obtain ⟨l0, l1, l2⟩ := loc_cells T1.loc
            have HT1 := hide T1
            clear T1 HT
            go_wp2_with fail
            refine (idx43_any (f1 k) HT1.out.ent (by omega)).mono ?_
            rintro e w3 ⟨rfl, rfl⟩
            rcases hasK_cases m (f1 k) HD.out with ⟨k1, k2, k3, k4⟩ | ⟨j, e, k1, k2, k3, k4, k5⟩
            · rw [k2]
              have HG := hide k4.symm
              have HT5 := hide HT1.out.duo
              clear k1 k2 k3 k4 HT1 l0 l1 l2
              go_wp2
              go_roundw
              case rel => exact ⟨k + 1, _, by omega, by go_num, (HT5.out.mono (by omega)).to (HG.out)⟩
              case measure => simp [intOf]; omega
            · rw [k2]
              have K5 := hide k5
              clear k1 k2 k3 k4 k5 l0 l1 l2
              go_wp2_with fail
              refine (del45_any j HT1.out.ent (by omega)).mono ?_
              rintro e w4 ⟨v4, rfl, E4, b4⟩
              rw [K5.out] at E4
              have HT5 := hide (HT1.out.model b4 E4).duo
              clear E4 b4 HT1
              go_wp2
              go_roundw
              case rel => exact ⟨k + 1, _, by omega, by go_num, (HT5.out.mono (by omega)).to (rfl)⟩
              case measure => simp [intOf]; omega
          have q2b : (f0 k % 4 == 2) = false := by simp [q2]
          clear q0 q1 q2
          go_wp2_with fail
          refine (two_ev HT.out (by omega)).mono ?_
          rintro e w2 ⟨rfl, T1⟩
          have HT1 := hide T1
          clear T1 HT
          by_cases hm0 : m = []
          · have E3 : Hid (m = m.dropLast) := by unfold Hid; rw [hm0]; rfl
            have hml' : ¬ ((0 : Int) < (m.length : Int)) := by rw [hm0]; simp
            have HT5 := hide HT1.out.duo
            clear HT1 hm0
            go_wp2
            go_roundw
            case rel => exact ⟨k + 1, _, by omega, by go_num, (HT5.out.mono (by omega)).to (E3.out)⟩
            case measure => simp [intOf]; omega
          · have hml : 0 < m.length := List.length_pos_iff.2 hm0
            have hml' : (0 : Int) < (m.length : Int) := by omega
            have E3 := hide (eI_last m hm0)
            clear hm0
            go_wp2_with fail
            refine (del45_any _ HT1.out.ent (by omega)).mono ?_
            rintro e w4 ⟨v4, rfl, E4, b4⟩
            rw [E3.out] at E4
            have HT5 := hide (HT1.out.model b4 E4).duo
            clear E4 b4 HT1
            go_wp2
            go_roundw
            case rel => exact ⟨k + 1, _, by omega, by go_num, (HT5.out.mono (by omega)).to (rfl)⟩
            case measure => simp [intOf]; omega
        · have hlt' : ¬ ((k : Int) < (len : Int)) := by omega
          have HD := hide T.dis
          have HT := hide T
          clear T
          go_wp2_with fail
          refine (duo_put key val HT.out (by omega)).mono ?_
          rintro e w2 ⟨rfl, T2⟩
          have HT2 := hide (T2.keep ((Below.refl _ _).alloc (Nat.le_refl _) (.cells #[.int .i64 (pOut c m key val).1.1, .int .i64 (pOut c m key val).1.2] 29)))
          have hbs := HT2.out.below.size
          clear T2 HT
          go_wp2_with fail
          refine (put42_any c key val HT2.out.ent hbs HD.out (by omega) (by omega)).mono ?_
          rintro e w4 ⟨v4, rfl, R4⟩
          have e4 := (R4.below.block w2.heap.size (by simp)).trans (heap_alloc_new w2 _)
          obtain ⟨y0, y1, y2, y3⟩ := blk_cells e4
          have hs4 : w2.heap.size < w4.heap.size := loc_lt e4
          have HT4 := hide (HT2.out.res R4)
          have hcap := HT4.out.capCell
          have hcb : w.heap.size < w4.heap.size := HT4.out.cbLt
          have HT5 := hide (HT4.out.keep ((Below.refl _ _).alloc (Nat.le_refl _) (.cells #[.int .i64 (pOut c m key val).1.1, .int .i64 (pOut c m key val).1.2] 29)))
          clear HT2 R4 e4 HT4
          go_wp2_with fail
          obtain ⟨nv, n, f, I, hn, E, hs, bw⟩ := HT5.out
          refine (read46_any I (by omega)).mono ?_
          rintro e w6 ⟨v6, rfl, E6, b6⟩
          have hlm : (mPut c m key val).length ≤ 50000 := by have := I.len_n; omega
          have E5 := E.below b6
          generalize mPut c m key val = M at *
          obtain ⟨a4, cap4, r4, rfl, ha4, _, _, _⟩ := E5.form
          obtain ⟨a6, cap6, r6, rfl, ha6, _, _, _⟩ := E6.form
          have HE5 := hide E5
          have HE6 := hide E6
          have HA4 := hide ha4
          have HA6 := hide ha6
          have BW := hide (bw.trans (b6.mono bw.size))
          have hw6 := BW.out.size
          clear E5 E6 ha4 ha6 I E hs bw b6 HT5 hcap y0 y1 y2 y3 hs4 hcb
          go_wp2
          go_loopw [23] (fun i wr => ∃ k : Nat, k ≤ M.length ∧ i = .int .i64 k ∧ Below w6.heap.size w6 wr) (fun i _ => M.length - (intOf i).toNat)
          case atStart => exact ⟨0, Nat.zero_le _, rfl, Below.refl _ _⟩
          case round =>
            obtain ⟨q, hq, rfl, b7⟩ := hrel
            by_cases hql : q < M.length
            · have hql' : (q : Int) < (M.length : Int) := by omega
              obtain ⟨e, he⟩ : ∃ e, M[q]? = some e := ⟨M[q], by simp [hql]⟩
              obtain rfl := HA4.out (by omega)
              obtain rfl := HA6.out (by omega)
              obtain ⟨u1, u2⟩ := (HE5.out.below b7).cells he
              obtain ⟨u3, u4⟩ := (HE6.out.below b7).cells he
              have HB7 := hide b7
              clear b7 he
              go_wp2
              go_quiet (fail)
              go_wp2
              go_roundw
              case rel => exact ⟨q + 1, by omega, by go_num, HB7.out.trans ⟨rfl, rfl, rfl, Nat.le_refl _, fun _ _ => rfl⟩⟩
              case measure => simp [intOf]; omega
            · have hql' : ¬ ((q : Int) < (M.length : Int)) := by omega
              have HB7 := hide b7
              clear b7
              go_wp2
              go_ret
              exact ⟨rfl, BW.out.trans (HB7.out.mono hw6)⟩
  · have hl : (1024 : Int) < (len : Int) := by omega
    clear ho h0
    go_enter Ybgv.func9, Ybgv.ntmps9
    go_wp2
    go_ret
    exact ⟨rfl, Below.refl _ _⟩

end Go.Proofs.Ymwhbg
