/-
  The law QAE: its walk.
-/
import Derived.Test.YmwhbgChkE
import Derived.Test.YmwhbgMore
namespace Go.Proofs.Ymwhbg
open Go.RowKit
set_option linter.unusedVariables false
set_option linter.unusedSimpArgs false

set_option maxHeartbeats 4000000 in
set_option maxRecDepth 100000 in
theorem qae_any (cs : Int) (a : Option Addr) (len c2 : Nat) (f0 f1 f2 : Nat → Int) (w : World) (ho : Ops3 .u8 .u8 .i64 w a len f0 f1 f2) (hcs : 0 ≤ cs ∧ cs ≤ 255) (h0 : ∀ k, k < len → (0 ≤ f0 k ∧ f0 k ≤ 255) ∧ (0 ≤ f1 k ∧ f1 k ≤ 255)) :
    Calls Ybgv.prog 5 #[.int .u8 cs, .slice a len c2] w fun e w' => e = .returned (.bool true) ∧ Below w.heap.size w w' := by
  obtain ⟨hcs1, hcs2⟩ := hcs
  by_cases hlen : len ≤ 1024
  · have hl : ¬ ((1024 : Int) < (len : Int)) := by omega
    have HO := hide ho
    have H0 := hide h0
    clear ho h0
    go_enter Ybgv.func5, Ybgv.ntmps5
    go_wp2_with fail
    refine (new_any (cs % 9) w w.heap.size (Nat.le_refl _)).mono ?_
    rintro e w1 ⟨rfl, I1, b1⟩
    rw [show max (cs % 9) 0 = cs % 9 by omega] at I1
    have T0 := hide (duo_new I1 b1).lit0
    clear I1 b1
    have hcp0 : 0 ≤ cs % 9 := by omega
    have hcp9 : cs % 9 ≤ 8 := by omega
    generalize cs % 9 = cp at *
    go_wp2
    go_loopw [7, 8] (fun v i wr => ∃ (k : Nat) (m : List (Int × Int)), k ≤ len ∧ i = .int .i64 k ∧ Duo w wr w.heap.size cp k m v m) (fun _ i _ => len - (intOf i).toNat)
    case atStart => exact ⟨0, [], Nat.zero_le _, rfl, T0.out⟩
    case round =>
        clear T0
        obtain ⟨k, m, hk, rfl, T⟩ := hrel
        obtain ⟨a', cap', b', rfl, ha', _, _, hlc⟩ := T.ent.form
        have HA := hide ha'
        clear ha'
        obtain ⟨tl1, tl2⟩ := T.len
        by_cases hlt : k < len
        · have hlt' : (k : Int) < (len : Int) := by omega
          obtain ⟨b, off, rfl, hb, g0, g1, g2⟩ := HO.out k hlt
          obtain ⟨⟨z1, z2⟩, z3, z4⟩ := H0.out k hlt
          have g0' := (T.below.cell (p := ⟨b, off + k * 3, none⟩) hb).trans g0
          have g1' := (T.below.cell (p := ⟨b, off + k * 3 + 1, none⟩) hb).trans g1
          have g2' := (T.below.cell (p := ⟨b, off + k * 3 + 2, none⟩) hb).trans g2
          clear g0 g1 g2
          have HT := hide (T.loc (.cells #[.int .u8 (f0 k), .int .u8 (f1 k), .int .i64 (f2 k)] 51))
          have hd := T.dis
          have HC := hide (hasK_cases m (f1 k % 8) hd)
          clear T hd
          by_cases q0 : f0 k % 5 = 0
          · have q0b : (f0 k % 5 == 0) = true := by simp [q0]
            clear q0
            go_wp2_with fail
            refine (two_put (f1 k % 8) (f2 k) HT.out (by omega)).mono ?_
            rintro e w2 ⟨rfl, T1⟩
            obtain ⟨l0, l1, l2⟩ := loc_cells T1.loc
            have HT1 := hide T1
            clear T1 HT
            by_cases hc0 : cp = 0
            · have hcb : (cp == 0) = true := by simp [hc0]
              have E2 : Hid (m = mPut cp m (f1 k % 8) (f2 k)) := by unfold Hid; rw [hc0, mPut_zero]
              have HT5 := hide HT1.out.duo
              clear hc0 l0 l1 l2 HT1 HC
              go_wp2
              go_roundw
              case rel => exact ⟨k + 1, _, by omega, by go_num, (HT5.out.mono (by omega)).to (E2.out)⟩
              case measure => simp [intOf]; omega
            · have hcb : (cp == 0) = false := by simp [hc0]
              go_wp2_with fail
              refine (idx21_any (f1 k % 8) HT1.out.ent (by omega)).mono ?_
              rintro e w3 ⟨rfl, rfl⟩
              rcases HC.out with ⟨k1, k2, k3, k4⟩ | ⟨j, e, k1, k2, k3, k4, k5⟩
              · rw [k2]
                clear k2
                by_cases hfull : (m.length : Int) = cp
                · have hfb : ((m.length : Int) == cp) = true := by simp [hfull]
                  have E2 := hide (mPut_full (v := f2 k) hc0 k1 hfull)
                  have hm0 : 0 < m.length := by omega
                  have hm1 : (0 : Int) < (m.length : Int) := by omega
                  obtain rfl := HA.out hm0
                  have HT2 := hide HT1.out.cut
                  clear hfull hc0 k1 k3 k4 HC l0 l1 l2 HT1 HA
                  obtain ⟨l0, l1, l2⟩ := loc_cells HT2.out.loc
                  go_wp2_with fail
                  refine (front22_any (-1) (f1 k % 8) (f2 k) HT2.out.ent (by simp; omega)).mono ?_
                  rintro e w5 ⟨v5, rfl, E5, b5⟩
                  have HT5 := hide (HT2.out.model b5 E5).duo
                  clear HT2 E5 b5 l0 l1 l2
                  go_wp2
                  go_roundw
                  case rel => exact ⟨k + 1, _, by omega, by go_num, (HT5.out.mono (by omega)).to (by rw [eI_neg, E2.out])⟩
                  case measure => simp [intOf]; omega
                · have hfb : ((m.length : Int) == cp) = false := by simp [hfull]
                  have E2 := hide (mPut_room (v := f2 k) hc0 k1 hfull)
                  clear hfull hc0 k1 k3 k4 HC l0 l1 l2
                  obtain ⟨l0, l1, l2⟩ := loc_cells HT1.out.loc
                  go_wp2_with fail
                  refine (front22_any (-1) (f1 k % 8) (f2 k) HT1.out.ent (by omega)).mono ?_
                  rintro e w5 ⟨v5, rfl, E5, b5⟩
                  have HT5 := hide (HT1.out.model b5 E5).duo
                  clear HT1 E5 b5 l0 l1 l2
                  go_wp2
                  go_roundw
                  case rel => exact ⟨k + 1, _, by omega, by go_num, (HT5.out.mono (by omega)).to (by rw [eI_neg, E2.out])⟩
                  case measure => simp [intOf]; omega
              · have E2 := hide (mPut_hit (v := f2 k) hc0 k1)
                rw [k2]
                have hjlt := (List.getElem?_eq_some_iff.1 k3).1
                have hj0 : ¬ ((j : Int) < 0) := by omega
                have E3 := hide k5
                clear k1 k2 k3 k4 k5 HC hc0 l0 l1 l2
                obtain ⟨l0, l1, l2⟩ := loc_cells HT1.out.loc
                go_wp2_with fail
                refine (front22_any j (f1 k % 8) (f2 k) HT1.out.ent (by omega)).mono ?_
                rintro e w5 ⟨v5, rfl, E5, b5⟩
                have HT5 := hide (HT1.out.model b5 E5).duo
                clear HT1 E5 b5 l0 l1 l2
                go_wp2
                go_roundw
                case rel => exact ⟨k + 1, _, by omega, by go_num, (HT5.out.mono (by omega)).to (by rw [E3.out, E2.out])⟩
                case measure => simp [intOf]; omega
          have q0b : (f0 k % 5 == 0) = false := by simp [q0]
          by_cases q1 : f0 k % 5 = 1
          · have q1b : (f0 k % 5 == 1) = true := by simp [q1]
            clear q0 q1
            go_wp2_with fail
            refine (two_put (f1 k % 8) (f2 k) HT.out (by omega)).mono ?_
            rintro e w2 ⟨rfl, T1⟩
            obtain ⟨l0, l1, l2⟩ := loc_cells T1.loc
            have HT1 := hide T1
            clear T1 HT
            by_cases hc0 : cp = 0
            · have hcb : (cp == 0) = true := by simp [hc0]
              have E2 : Hid (m = mPut cp m (f1 k % 8) (f2 k)) := by unfold Hid; rw [hc0, mPut_zero]
              have HT5 := hide HT1.out.duo
              clear hc0 l0 l1 l2 HT1 HC
              go_wp2
              go_roundw
              case rel => exact ⟨k + 1, _, by omega, by go_num, (HT5.out.mono (by omega)).to (E2.out)⟩
              case measure => simp [intOf]; omega
            · have hcb : (cp == 0) = false := by simp [hc0]
              go_wp2_with fail
              refine (idx21_any (f1 k % 8) HT1.out.ent (by omega)).mono ?_
              rintro e w3 ⟨rfl, rfl⟩
              rcases HC.out with ⟨k1, k2, k3, k4⟩ | ⟨j, e, k1, k2, k3, k4, k5⟩
              · rw [k2]
                clear k2
                by_cases hfull : (m.length : Int) = cp
                · have hfb : ((m.length : Int) == cp) = true := by simp [hfull]
                  have E2 := hide (mPut_full (v := f2 k) hc0 k1 hfull)
                  have hm0 : 0 < m.length := by omega
                  have hm1 : (0 : Int) < (m.length : Int) := by omega
                  obtain rfl := HA.out hm0
                  have HT2 := hide HT1.out.cut
                  clear hfull hc0 k1 k3 k4 HC l0 l1 l2 HT1 HA
                  obtain ⟨l0, l1, l2⟩ := loc_cells HT2.out.loc
                  go_wp2_with fail
                  refine (front22_any (-1) (f1 k % 8) (f2 k) HT2.out.ent (by simp; omega)).mono ?_
                  rintro e w5 ⟨v5, rfl, E5, b5⟩
                  have HT5 := hide (HT2.out.model b5 E5).duo
                  clear HT2 E5 b5 l0 l1 l2
                  go_wp2
                  go_roundw
                  case rel => exact ⟨k + 1, _, by omega, by go_num, (HT5.out.mono (by omega)).to (by rw [eI_neg, E2.out])⟩
                  case measure => simp [intOf]; omega
                · have hfb : ((m.length : Int) == cp) = false := by simp [hfull]
                  have E2 := hide (mPut_room (v := f2 k) hc0 k1 hfull)
                  clear hfull hc0 k1 k3 k4 HC l0 l1 l2
                  obtain ⟨l0, l1, l2⟩ := loc_cells HT1.out.loc
                  go_wp2_with fail
                  refine (front22_any (-1) (f1 k % 8) (f2 k) HT1.out.ent (by omega)).mono ?_
                  rintro e w5 ⟨v5, rfl, E5, b5⟩
                  have HT5 := hide (HT1.out.model b5 E5).duo
                  clear HT1 E5 b5 l0 l1 l2
                  go_wp2
                  go_roundw
                  case rel => exact ⟨k + 1, _, by omega, by go_num, (HT5.out.mono (by omega)).to (by rw [eI_neg, E2.out])⟩
                  case measure => simp [intOf]; omega
              · have E2 := hide (mPut_hit (v := f2 k) hc0 k1)
                rw [k2]
                have hjlt := (List.getElem?_eq_some_iff.1 k3).1
                have hj0 : ¬ ((j : Int) < 0) := by omega
                have E3 := hide k5
                clear k1 k2 k3 k4 k5 HC hc0 l0 l1 l2
                obtain ⟨l0, l1, l2⟩ := loc_cells HT1.out.loc
                go_wp2_with fail
                refine (front22_any j (f1 k % 8) (f2 k) HT1.out.ent (by omega)).mono ?_
                rintro e w5 ⟨v5, rfl, E5, b5⟩
                have HT5 := hide (HT1.out.model b5 E5).duo
                clear HT1 E5 b5 l0 l1 l2
                go_wp2
                go_roundw
                case rel => exact ⟨k + 1, _, by omega, by go_num, (HT5.out.mono (by omega)).to (by rw [E3.out, E2.out])⟩
                case measure => simp [intOf]; omega
          have q1b : (f0 k % 5 == 1) = false := by simp [q1]
          by_cases q2 : f0 k % 5 = 2
          · have q2b : (f0 k % 5 == 2) = true := by simp [q2]
            clear q0 q1 q2
            go_wp2_with fail
            refine (two_get (f1 k % 8) HT.out (by omega)).mono ?_
            rintro e w2 ⟨rfl, T1⟩
            have HT1 := hide T1
            clear T1 HT
            go_wp2_with fail
            refine (idx21_any (f1 k % 8) HT1.out.ent (by omega)).mono ?_
            rintro e w3 ⟨rfl, rfl⟩
            rcases HC.out with ⟨k1, k2, k3, k4⟩ | ⟨j, e, k1, k2, k3, k4, k5⟩
            · rw [k2]
              have E2 := hide (mGet_miss k1)
              have HT5 := hide HT1.out.duo
              clear k1 k2 k3 k4 HC HT1
              go_wp2
              go_roundw
              case rel => exact ⟨k + 1, _, by omega, by go_num, (HT5.out.mono (by omega)).to (by rw [E2.out])⟩
              case measure => simp [intOf]; omega
            · rw [k2]
              have E2 := hide (mGet_hit k1)
              have hjlt := (List.getElem?_eq_some_iff.1 k3).1
              have hjlt' : (j : Int) < (m.length : Int) := by omega
              obtain rfl := HA.out (by omega)
              obtain ⟨p1, p2⟩ := HT1.out.ent.cells k3
              have E3 := hide k5
              subst k4
              clear k1 k2 k3 k5 HC HA
              go_wp2_with fail
              refine (front22_any j (f1 k % 8) (valOf m (f1 k % 8)) HT1.out.ent (by omega)).mono ?_
              rintro e w5 ⟨v5, rfl, E5, b5⟩
              have HT5 := hide (HT1.out.model b5 E5).duo
              clear HT1 E5 b5 p1 p2
              go_wp2
              go_roundw
              case rel => exact ⟨k + 1, _, by omega, by go_num, (HT5.out.mono (by omega)).to (by rw [E3.out, E2.out])⟩
              case measure => simp [intOf]; omega
          have q2b : (f0 k % 5 == 2) = false := by simp [q2]
          by_cases q3 : f0 k % 5 = 3
          · have q3b : (f0 k % 5 == 3) = true := by simp [q3]
            clear q0 q1 q2 q3
            go_wp2_with fail
            refine (two_rem (f1 k % 8) HT.out (by omega)).mono ?_
            rintro e w2 ⟨rfl, T1⟩
            have HT1 := hide T1
            clear T1 HT
            go_wp2_with fail
            refine (idx21_any (f1 k % 8) HT1.out.ent (by omega)).mono ?_
            rintro e w3 ⟨rfl, rfl⟩
            rcases HC.out with ⟨k1, k2, k3, k4⟩ | ⟨j, e, k1, k2, k3, k4, k5⟩
            · rw [k2]
              have E2 := hide k4
              have HT5 := hide HT1.out.duo
              clear k1 k2 k3 k4 HC HT1
              go_wp2
              go_roundw
              case rel => exact ⟨k + 1, _, by omega, by go_num, (HT5.out.mono (by omega)).to (by rw [E2.out])⟩
              case measure => simp [intOf]; omega
            · rw [k2]
              have hjlt := (List.getElem?_eq_some_iff.1 k3).1
              have E3 := hide k5
              clear k1 k2 k3 k4 k5 HC
              go_wp2_with fail
              refine (del23_any _ HT1.out.ent (by omega)).mono ?_
              rintro e w4 ⟨v4, rfl, E4, b4⟩
              have HT5 := hide (HT1.out.model b4 E4).duo
              clear HT1 E4 b4
              go_wp2
              go_roundw
              case rel => exact ⟨k + 1, _, by omega, by go_num, (HT5.out.mono (by omega)).to (by rw [E3.out])⟩
              case measure => simp [intOf]; omega
          have q3b : (f0 k % 5 == 3) = false := by simp [q3]
          clear q0 q1 q2 q3
          go_wp2_with fail
          refine (two_ev HT.out (by omega)).mono ?_
          rintro e w2 ⟨rfl, T1⟩
          have HT1 := hide T1
          clear T1 HT HC
          by_cases hm0 : m = []
          · have E3 : Hid (m = m.dropLast) := by unfold Hid; rw [hm0]; rfl
            have hml' : ¬ ((0 : Int) < (m.length : Int)) := by rw [hm0]; simp
            have HT5 := hide HT1.out.duo
            clear HT1 hm0
            go_wp2
            go_roundw
            case rel => exact ⟨k + 1, _, by omega, by go_num, (HT5.out.mono (by omega)).to (E3.out)⟩
            case measure => simp [intOf]; omega
          · have hml : 0 < m.length := List.length_pos_iff.2 hm0
            have hml' : (0 : Int) < (m.length : Int) := by omega
            obtain rfl := HA.out hml
            have HT5 := hide HT1.out.cut.duo
            clear hm0 HT1 HA
            go_wp2
            go_roundw
            case rel => exact ⟨k + 1, _, by omega, by go_num, (HT5.out.mono (by omega)).to (rfl)⟩
            case measure => simp [intOf]; omega
        · have hlt' : ¬ ((k : Int) < (len : Int)) := by omega
          have HD := hide T
          clear T
          rcases snocE_cases m with hm0 | ⟨d, e, hm0⟩
          · have hml' : ¬ ((0 : Int) < (m.length : Int)) := by rw [hm0]; simp
            have E1 := hide (show evOut m = (0, 0) by rw [hm0]; rfl)
            have E2 := hide (show (!m.isEmpty) = false by rw [hm0]; rfl)
            have E3 := hide (show m = m.dropLast by rw [hm0]; rfl)
            have HT := hide (HD.out.loc (.cells #[.int .i64 0, .int .i64 0] 29))
            clear hm0 HD
            go_wp2_with fail
            refine (two_ev HT.out (by omega)).mono ?_
            rintro e w2 ⟨rfl, T1⟩
            rw [E1.out, E2.out]
            have HT1 := hide T1.duo
            have lc := T1.loc
            have l0 : w2.cell? ⟨wr.heap.size, 0, none⟩ = some (.int .i64 0) := by simp [World.cell?, lc]
            have l1 : w2.cell? ⟨wr.heap.size, 1, none⟩ = some (.int .i64 0) := by simp [World.cell?, lc]
            have hwl := loc_lt lc
            clear T1 HT lc
            go_wp2_with fail
            have TF := (HT1.out.to E3.out).keep ((Below.refl _ _).alloc (Nat.le_refl _) (.cells #[.int .i64 0, .int .i64 0] 29))
            obtain ⟨nv, n, f, I, hn, E, hs, bw⟩ := TF
            have EE := E
            rw [← E3.out] at EE I
            refine (check24_any I EE (by omega)).mono ?_
            rintro e w4 ⟨rfl, b4⟩
            have BW := hide (bw.trans (b4.mono bw.size))
            clear I E EE hs bw b4 HT1
            go_wp2
            go_ret
            exact ⟨rfl, BW.out⟩
          · have hml : m.length = d.length + 1 := by rw [hm0]; simp
            have hml' : (0 : Int) < (m.length : Int) := by omega
            have hml2 : 0 < m.length := by omega
            have E1 := hide (show evOut m = e by rw [hm0]; exact evOut_snoc d e)
            have E2 := hide (show (!m.isEmpty) = true by rw [hm0]; simp)
            have HK : m[m.length - 1]? = some e := by rw [hm0]; simp
            obtain rfl := HA.out hml2
            obtain ⟨p1, p2⟩ := HD.out.ent.cells HK
            have hbl : b' < wr.heap.size := (HD.out.ent.lt b' rfl).2
            have HML := hide hml
            have HT := hide (HD.out.loc (.cells #[.int .i64 e.1, .int .i64 e.2] 29)).cut
            clear hm0 HK hml HA HD
            go_wp2_with fail
            refine (two_ev HT.out (by omega)).mono ?_
            rintro e2 w2 ⟨rfl, T1⟩
            rw [E1.out, E2.out]
            have HT1 := hide T1.duo
            have lc := T1.loc
            have l0 : w2.cell? ⟨wr.heap.size, 0, none⟩ = some (.int .i64 e.1) := by simp [World.cell?, lc]
            have l1 : w2.cell? ⟨wr.heap.size, 1, none⟩ = some (.int .i64 e.2) := by simp [World.cell?, lc]
            have hwl := loc_lt lc
            clear T1 HT lc p1 p2
            go_wp2_with fail
            have TF := HT1.out.keep ((Below.refl _ _).alloc (Nat.le_refl _) (.cells #[.int .i64 e.1, .int .i64 e.2] 29))
            obtain ⟨nv, n, f, I, hn, E, hs, bw⟩ := TF
            refine (check24_any I E (by omega)).mono ?_
            rintro e3 w4 ⟨rfl, b4⟩
            have BW := hide (bw.trans (b4.mono bw.size))
            clear I E hs bw b4 HT1
            go_wp2
            go_ret
            exact ⟨rfl, BW.out⟩
  · have hl : (1024 : Int) < (len : Int) := by omega
    clear ho h0
    go_enter Ybgv.func5, Ybgv.ntmps5
    go_wp2
    go_ret
    exact ⟨rfl, Below.refl _ _⟩

end Go.Proofs.Ymwhbg
