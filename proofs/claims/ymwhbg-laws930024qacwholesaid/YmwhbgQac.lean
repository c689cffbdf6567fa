/-
  The law QAC: its walk.
-/
import Derived.Test.YmwhbgQacM
import Derived.Deep.DeepCutAuto
namespace Go.Proofs.Ymwhbg
open Go.RowKit
set_option linter.unusedVariables false
set_option linter.unusedSimpArgs false

set_option maxHeartbeats 4000000 in
set_option maxRecDepth 100000 in
theorem qac_any (cap key : Int) (a : Option Addr) (len c2 : Nat) (f0 f1 f2 : Nat → Int) (w : World) (ho : Ops3 .u8 .i64 .i64 w a len f0 f1 f2) (h0 : ∀ k, k < len → (0 ≤ f0 k ∧ f0 k ≤ 255) ∧ (-9223372036854775808 ≤ f1 k ∧ f1 k ≤ 9223372036854775807)) :
    Calls Ybgv.prog 7 #[.int .i64 cap, .slice a len c2, .int .i64 key] w fun e w' => e = .returned (.bool true) ∧ Below w.heap.size w w' := by
  by_cases hlen : len ≤ 1024
  · have hl : ¬ ((1024 : Int) < (len : Int)) := by omega
    have HO := hide ho
    have H0 := hide h0
    clear ho h0
    go_enter Ybgv.func7, Ybgv.ntmps7
    go_upto_if 24 with fail
    go_cut [7] from 22 to 24 (fun v wr => v = .int .i64 (max cap 0) ∧ wr = w)
    case first =>
      go_wp2
      · go_meet
        case rel => exact ⟨by rw [show max cap 0 = 0 by omega], rfl⟩
      · go_meet
        case rel => exact ⟨by rw [show max cap 0 = cap by omega], rfl⟩
    case rest =>
      obtain ⟨rfl, rfl⟩ := hcut
      go_wp2_with fail
      refine (new_any cap wc wc.heap.size (Nat.le_refl _)).mono ?_
      rintro e w1 ⟨rfl, I1, b1⟩
      have T0 := hide (duo_new I1 b1)
      clear I1 b1
      generalize max cap 0 = cp at *
      go_wp2
      go_loopw [9, 29] (fun v i wr => ∃ (k : Nat) (m : List (Int × Int)), k ≤ len ∧ i = .int .i64 k ∧ Duo wc wr wc.heap.size cp k m v m) (fun _ i _ => len - (intOf i).toNat)
      case atStart => exact ⟨0, [], Nat.zero_le _, rfl, T0.out⟩
      case round =>
        clear T0
        obtain ⟨k, m, hk, rfl, T⟩ := hrel
        obtain ⟨a', cap', b', rfl, ha', _, _, hlc⟩ := T.ent.form
        have HA := hide ha'
        clear ha'
        obtain ⟨tl1, tl2⟩ := T.len
        by_cases hlt : k < len
        · have hlt' : (k : Int) < (len : Int) := by omega
          obtain ⟨b, off, rfl, hb, g0, g1, g2⟩ := HO.out k hlt
          obtain ⟨⟨z1, z2⟩, z3, z4⟩ := H0.out k hlt
          have g0' := (T.below.cell (p := ⟨b, off + k * 3, none⟩) hb).trans g0
          have g1' := (T.below.cell (p := ⟨b, off + k * 3 + 1, none⟩) hb).trans g1
          have g2' := (T.below.cell (p := ⟨b, off + k * 3 + 2, none⟩) hb).trans g2
          clear g0 g1 g2
          have HT := hide (T.loc (.cells #[.int .u8 (f0 k), .int .i64 (f1 k), .int .i64 (f2 k)] 62))
          have HD := hide T.dis
          have HC := hide (hasK_cases m ((f1 k).tmod 8) HD.out)
          clear T
          by_cases q0 : f0 k % 3 = 0
          · have q0b : (f0 k % 3 == 0) = true := by simp [q0]
            clear q0 HC
            go_wp2_with fail
            refine (two_put ((f1 k).tmod 8) (f2 k) HT.out (by omega)).mono ?_
            rintro e w2 ⟨rfl, T1⟩
            obtain ⟨l0, l1, l2⟩ := loc_cells T1.loc
            have HT1 := hide T1
            have hbs := T1.below.size
            clear T1 HT
            go_wp2_with fail
            refine (put29_any cp ((f1 k).tmod 8) (f2 k) HT1.out.ent hbs HD.out tl2 (by omega)).mono ?_
            rintro e w3 ⟨v3, rfl, R3⟩
            have HT5 := hide (HT1.out.res R3).duo
            clear HT1 R3 l0 l1 l2 hbs
            go_wp2
            go_roundw
            case rel => exact ⟨k + 1, _, by omega, by go_num, (HT5.out.mono (by omega)).to (rfl)⟩
            case measure => simp [intOf]; omega
          have q0b : (f0 k % 3 == 0) = false := by simp [q0]
          by_cases q1 : f0 k % 3 = 1
          · have q1b : (f0 k % 3 == 1) = true := by simp [q1]
            clear q0 q1
            go_wp2_with fail
            refine (two_rem ((f1 k).tmod 8) HT.out (by omega)).mono ?_
            rintro e w2 ⟨rfl, T1⟩
            have HT1 := hide T1
            clear T1 HT
            go_wp2_with fail
            refine (idx30_any ((f1 k).tmod 8) HT1.out.ent (by omega)).mono ?_
            rintro e w3 ⟨rfl, rfl⟩
            rcases HC.out with ⟨k1, k2, k3, k4⟩ | ⟨j, e, k1, k2, k3, k4, k5⟩
            · rw [k2]
              have E2 := hide k4
              have HT5 := hide HT1.out.duo
              clear k1 k2 k3 k4 HC HT1
              go_wp2
              go_roundw
              case rel => exact ⟨k + 1, _, by omega, by go_num, (HT5.out.mono (by omega)).to (by rw [E2.out])⟩
              case measure => simp [intOf]; omega
            · rw [k2]
              have hjlt := (List.getElem?_eq_some_iff.1 k3).1
              have E3 := hide k5
              clear k1 k2 k3 k4 k5 HC
              go_wp2_with fail
              refine (del31_any _ HT1.out.ent (by omega)).mono ?_
              rintro e w4 ⟨v4, rfl, E4, b4⟩
              have HT5 := hide (HT1.out.model b4 E4).duo
              clear HT1 E4 b4
              go_wp2
              go_roundw
              case rel => exact ⟨k + 1, _, by omega, by go_num, (HT5.out.mono (by omega)).to (by rw [E3.out])⟩
              case measure => simp [intOf]; omega
          have q1b : (f0 k % 3 == 1) = false := by simp [q1]
          clear q0 q1
          go_wp2_with fail
          refine (two_ev HT.out (by omega)).mono ?_
          rintro e w2 ⟨rfl, T1⟩
          have HT1 := hide T1
          clear T1 HT HC
          by_cases hm0 : m = []
          · have E3 : Hid (m = m.dropLast) := by unfold Hid; rw [hm0]; rfl
            have hml' : ¬ ((0 : Int) < (m.length : Int)) := by rw [hm0]; simp
            have HT5 := hide HT1.out.duo
            clear HT1 hm0
            go_wp2
            go_roundw
            case rel => exact ⟨k + 1, _, by omega, by go_num, (HT5.out.mono (by omega)).to (E3.out)⟩
            case measure => simp [intOf]; omega
          · have hml : 0 < m.length := List.length_pos_iff.2 hm0
            have hml' : (0 : Int) < (m.length : Int) := by omega
            have E3 := hide (eI_last m hm0)
            clear hm0
            go_wp2_with fail
            refine (del31_any _ HT1.out.ent (by omega)).mono ?_
            rintro e w4 ⟨v4, rfl, E4, b4⟩
            have HT5 := hide (HT1.out.model b4 E4).duo
            clear HT1 E4 b4
            go_wp2
            go_roundw
            case rel => exact ⟨k + 1, _, by omega, by go_num, (HT5.out.mono (by omega)).to (by rw [E3.out])⟩
            case measure => simp [intOf]; omega
        · have hlt' : ¬ ((k : Int) < (len : Int)) := by omega
          have HK := hide (hasK_cases m key T.dis)
          obtain ⟨nv, n, f, I, hn, E, hs, bw⟩ := T
          have hI := I
          obtain ⟨K, V, P, X, L, F, c, r, hm, d, l⟩ := hI
          obtain ⟨an, ncap, nb, rfl, _, _, _⟩ := c.row.form
          have c0 := c.c0
          have c3 := c.c3
          have HI := hide I
          have HE := hide E
          have HS := hide hs
          have HB := hide bw
          clear I c r hm d l E hs bw
          go_wp2_with fail
          refine (get_any key HI.out (by omega)).mono ?_
          rintro e w2 ⟨rfl, I2, g2⟩
          have HI2 := hide I2
          have HE2 := hide (HE.out.fr g2 HS.out)
          have HB2 := hide (HB.out.trans (g2.toBelow HB.out.size (fun k hk => (HI.out.own_lt k hk).1)))
          clear HI HE HS HB I2 g2 c0 c3
          go_wp2_with fail
          refine (idx30_any key HE2.out (by omega)).mono ?_
          rintro e w3 ⟨rfl, rfl⟩
          rcases HK.out with ⟨k1, k2, k3, k4⟩ | ⟨j, e, k1, k2, k3, k4, k5⟩
          · rw [k1, k2, k3]
            have EM := hide (mGet_miss k1)
            clear k1 k2 k3 k4 HK
            go_wp2_with fail
            rw [EM.out] at HI2
            refine (check33_any HI2.out HE2.out (by omega)).mono ?_
            rintro e w4 ⟨rfl, b4⟩
            have BW := hide (HB2.out.trans (b4.mono HB2.out.size))
            clear HI2 HE2 HB2 b4
            go_wp2
            go_ret
            exact ⟨rfl, BW.out⟩
          · rw [k1, k2]
            have EM := hide (mGet_hit k1)
            have hjlt := (List.getElem?_eq_some_iff.1 k3).1
            have hjlt' : (j : Int) < (m.length : Int) := by omega
            have hj0 : ¬ ((j : Int) < 0) := by omega
            obtain rfl := HA.out (by omega)
            obtain ⟨p1, p2⟩ := HE2.out.cells k3
            have E3 := hide k5
            subst k4
            clear k1 k2 k3 k5 HK HA
            go_wp2_with fail
            refine (front32_any j key (valOf m key) HE2.out (by omega)).mono ?_
            rintro e w5 ⟨v5, rfl, E5, b5⟩
            rw [E3.out, ← EM.out] at E5
            have HI5 := hide (HI2.out.below b5)
            have HE5 := hide E5
            have HB5 := hide (HB2.out.trans (b5.mono HB2.out.size))
            clear HI2 HE2 HB2 E5 b5 p1 p2
            go_wp2_with fail
            refine (check33_any HI5.out HE5.out (by omega)).mono ?_
            rintro e w4 ⟨rfl, b4⟩
            have BW := hide (HB5.out.trans (b4.mono HB5.out.size))
            clear HI5 HE5 HB5 b4
            go_wp2
            go_ret
            exact ⟨rfl, BW.out⟩
  · have hl : (1024 : Int) < (len : Int) := by omega
    clear ho h0
    go_enter Ybgv.func7, Ybgv.ntmps7
    go_wp2
    go_ret
    exact ⟨rfl, Below.refl _ _⟩

end Go.Proofs.Ymwhbg
