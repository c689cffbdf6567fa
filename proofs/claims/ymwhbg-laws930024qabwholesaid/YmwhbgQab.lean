/-
  The law QAB: its walk.
-/
import Derived.Test.YmwhbgTwo
import Derived.Test.YmwhbgSnap
import Derived.Deep.QuietTactic
import Derived.BigQuiet
import Derived.Deep.DeepCutAuto
namespace Go.Proofs.Ymwhbg
open Go.RowKit
set_option linter.unusedVariables false
set_option linter.unusedSimpArgs false

set_option maxHeartbeats 4000000 in
set_option maxRecDepth 100000 in
theorem qab_any (cap key : Int) (a : Option Addr) (len c2 : Nat) (f0 f1 f2 : Nat → Int) (w : World) (ho : Ops3 .u8 .i64 .i64 w a len f0 f1 f2) (h0 : ∀ k, k < len → 0 ≤ f0 k ∧ f0 k ≤ 255) :
    Calls Ybgv.prog 3 #[.int .i64 cap, .slice a len c2, .int .i64 key] w fun e w' => e = .returned (.bool true) ∧ Below w.heap.size w w' := by
  by_cases hlen : len ≤ 1024
  · have hl : ¬ ((1024 : Int) < (len : Int)) := by omega
    have HO := hide ho
    have H0 := hide h0
    clear ho h0
    go_enter Ybgv.func3, Ybgv.ntmps3
    go_wp2_with fail
    refine (new_any cap w w.heap.size (Nat.le_refl _)).mono ?_
    rintro e w1 ⟨rfl, I1, b1⟩
    go_upto_if 36 with fail
    go_cut [8] from 35 to 36 (fun v wr => v = .int .i64 (max cap 0) ∧ wr = w1)
    case first =>
      go_wp2
      · go_meet
        case rel => exact ⟨by rw [show max cap 0 = 0 by omega], rfl⟩
      · go_meet
        case rel => exact ⟨by rw [show max cap 0 = cap by omega], rfl⟩
    case rest =>
      obtain ⟨rfl, rfl⟩ := hcut
      have T0 := hide (duo_new I1 b1)
      clear I1 b1
      generalize hcp : max cap 0 = cp at *
      clear hcp
      go_wp2
      go_loopw [9, 39] (fun v i wr => ∃ (k : Nat) (m : List (Int × Int)), k ≤ len ∧ i = .int .i64 k ∧ Duo w wr w.heap.size cp k m v m) (fun _ i _ => len - (intOf i).toNat)
      case atStart => exact ⟨0, [], Nat.zero_le _, rfl, T0.out⟩
      case round =>
        clear T0
        obtain ⟨k, m, hk, rfl, T⟩ := hrel
        obtain ⟨a', cap', b', rfl, ha', _, _, _⟩ := T.ent.form
        have HA := hide ha'
        clear ha'
        obtain ⟨tl1, tl2⟩ := T.len
        by_cases hlt : k < len
        · have hlt' : (k : Int) < (len : Int) := by omega
          obtain ⟨b, off, rfl, hb, g0, g1, g2⟩ := HO.out k hlt
          obtain ⟨z1, z2⟩ := H0.out k hlt
          have g0' := (T.below.cell (p := ⟨b, off + k * 3, none⟩) hb).trans g0
          have g1' := (T.below.cell (p := ⟨b, off + k * 3 + 1, none⟩) hb).trans g1
          have g2' := (T.below.cell (p := ⟨b, off + k * 3 + 2, none⟩) hb).trans g2
          clear g0 g1 g2
          have HT := hide (T.loc (.cells #[.int .u8 (f0 k), .int .i64 (f1 k), .int .i64 (f2 k)] 27))
          have hd := T.dis
          have HC := hide (hasK_cases m (f1 k) hd)
          clear T hd
          by_cases q0 : f0 k % 4 = 0
          · have q0b : (f0 k % 4 == 0) = true := by simp [q0]
            clear q0
            go_wp2_with fail
            refine (two_put (f1 k) (f2 k) HT.out (by omega)).mono ?_
            rintro e w2 ⟨rfl, T1⟩
            obtain ⟨l0, l1, l2⟩ := loc_cells T1.loc
            have HT1 := hide T1
            clear T1 HT
            by_cases hc0 : 0 < cp
            · have hcp0 : cp ≠ 0 := by omega
              go_wp2_with fail
              refine (idx12_any (f1 k) HT1.out.ent (by omega)).mono ?_
              rintro e w3 ⟨rfl, rfl⟩
              rcases HC.out with ⟨k1, k2, k3, k4⟩ | ⟨j, e, k1, k2, k3, k4, k5⟩
              · rw [k2]
                clear k2
                by_cases hfull : (m.length : Int) = cp
                · have hfb : ((m.length : Int) == cp) = true := by simp [hfull]
                  have E2 := hide (mPut_full (v := f2 k) hcp0 k1 hfull)
                  have hm0 : m ≠ [] := by rintro rfl; simp at hfull; omega
                  have E3 := hide (eI_last m hm0)
                  clear hfull hcp0 k1 k3 k4 HC hm0 l0 l1 l2
                  go_wp2_with fail
                  refine (del13_any _ HT1.out.ent (by omega)).mono ?_
                  rintro e w4 ⟨v4, rfl, E4, b4⟩
                  have HT2 := hide (HT1.out.model b4 E4)
                  clear HT1 E4 b4
                  obtain ⟨l0, l1, l2⟩ := loc_cells HT2.out.loc
                  go_wp2_with fail
                  refine (front14_any (f1 k) (f2 k) HT2.out.ent (Nat.le_trans (eI_length _ _) (by omega))).mono ?_
                  rintro e w5 ⟨v5, rfl, E5, b5⟩
                  have HT5 := hide (HT2.out.model b5 E5).duo
                  clear HT2 E5 b5 l0 l1 l2
                  go_wp2
                  go_roundw
                  case rel => exact ⟨k + 1, _, by omega, by go_num, (HT5.out.mono (by omega)).to (by rw [E3.out, E2.out])⟩
                  case measure => simp [intOf]; omega
                · have hfb : ((m.length : Int) == cp) = false := by simp [hfull]
                  have E2 := hide (mPut_room (v := f2 k) hcp0 k1 hfull)
                  clear hfull hcp0 k1 k3 k4 HC l0 l1 l2
                  obtain ⟨l0, l1, l2⟩ := loc_cells HT1.out.loc
                  go_wp2_with fail
                  refine (front14_any (f1 k) (f2 k) HT1.out.ent (by omega)).mono ?_
                  rintro e w5 ⟨v5, rfl, E5, b5⟩
                  have HT5 := hide (HT1.out.model b5 E5).duo
                  clear HT1 E5 b5 l0 l1 l2
                  go_wp2
                  go_roundw
                  case rel => exact ⟨k + 1, _, by omega, by go_num, (HT5.out.mono (by omega)).to (by rw [E2.out])⟩
                  case measure => simp [intOf]; omega
              · have E2 := hide (mPut_hit (v := f2 k) hcp0 k1)
                rw [k2]
                have hjlt := (List.getElem?_eq_some_iff.1 k3).1
                have E3 := hide k5
                clear k1 k2 k3 k4 k5 HC hcp0 l0 l1 l2
                go_wp2_with fail
                refine (del13_any _ HT1.out.ent (by omega)).mono ?_
                rintro e w4 ⟨v4, rfl, E4, b4⟩
                have HT2 := hide (HT1.out.model b4 E4)
                clear HT1 E4 b4
                obtain ⟨l0, l1, l2⟩ := loc_cells HT2.out.loc
                go_wp2_with fail
                refine (front14_any (f1 k) (f2 k) HT2.out.ent (Nat.le_trans (eI_length _ _) (by omega))).mono ?_
                rintro e w5 ⟨v5, rfl, E5, b5⟩
                have HT5 := hide (HT2.out.model b5 E5).duo
                clear HT2 E5 b5 l0 l1 l2
                go_wp2
                go_roundw
                case rel => exact ⟨k + 1, _, by omega, by go_num, (HT5.out.mono (by omega)).to (by rw [E3.out, E2.out])⟩
                case measure => simp [intOf]; omega
            · have hcz : cp = 0 := by omega
              have E2 : Hid (m = mPut cp m (f1 k) (f2 k)) := by unfold Hid; rw [hcz, mPut_zero]
              have HT5 := hide HT1.out.duo
              clear hcz l0 l1 l2 HT1 HC
              go_wp2
              go_roundw
              case rel => exact ⟨k + 1, _, by omega, by go_num, (HT5.out.mono (by omega)).to (E2.out)⟩
              case measure => simp [intOf]; omega
          have q0b : (f0 k % 4 == 0) = false := by simp [q0]
          by_cases q1 : f0 k % 4 = 1
          · have q1b : (f0 k % 4 == 1) = true := by simp [q1]
            clear q0 q1
            go_wp2_with fail
            refine (two_get (f1 k) HT.out (by omega)).mono ?_
            rintro e w2 ⟨rfl, T1⟩
            obtain ⟨l0, l1, l2⟩ := loc_cells T1.loc
            have HT1 := hide T1
            clear T1 HT
            go_wp2_with fail
            refine (idx12_any (f1 k) HT1.out.ent (by omega)).mono ?_
            rintro e w3 ⟨rfl, rfl⟩
            rcases HC.out with ⟨k1, k2, k3, k4⟩ | ⟨j, e, k1, k2, k3, k4, k5⟩
            · rw [k2]
              have E2 := hide (mGet_miss k1)
              have HT5 := hide HT1.out.duo
              clear k1 k2 k3 k4 HC HT1 l0 l1 l2
              go_wp2
              go_roundw
              case rel => exact ⟨k + 1, _, by omega, by go_num, (HT5.out.mono (by omega)).to (by rw [E2.out])⟩
              case measure => simp [intOf]; omega
            · rw [k2]
              have E2 := hide (mGet_hit k1)
              have hjlt := (List.getElem?_eq_some_iff.1 k3).1
              have hjlt' : (j : Int) < (m.length : Int) := by omega
              obtain rfl := HA.out (by omega)
              obtain ⟨p1, p2⟩ := HT1.out.ent.cells k3
              have E3 := hide k5
              subst k4
              clear k1 k2 k3 k5 HC l0 l1 l2 HA
              go_wp2_with fail
              refine (del13_any _ (HT1.out.alloc _).ent (by omega)).mono ?_
              rintro e w4 ⟨v4, rfl, E4, b4⟩
              have HT2 := hide ((HT1.out.alloc _).model b4 E4)
              have s1 := (b4.cell (p := ⟨w3.heap.size, 0, none⟩) (by simp)).trans (World.cell?_alloc_new w3 _ _ _)
              have s2 := (b4.cell (p := ⟨w3.heap.size, 1, none⟩) (by simp)).trans (World.cell?_alloc_new w3 _ _ _)
              simp at s1 s2
              clear HT1 E4 b4 p1 p2
              go_wp2_with fail
              refine (front14_any (f1 k) (valOf m (f1 k)) HT2.out.ent (Nat.le_trans (eI_length _ _) (by omega))).mono ?_
              rintro e w5 ⟨v5, rfl, E5, b5⟩
              have HT5 := hide (HT2.out.model b5 E5).duo
              clear HT2 E5 b5 s1 s2
              go_wp2
              go_roundw
              case rel => exact ⟨k + 1, _, by omega, by go_num, (HT5.out.mono (by omega)).to (by rw [E3.out, E2.out])⟩
              case measure => simp [intOf]; omega
          have q1b : (f0 k % 4 == 1) = false := by simp [q1]
          by_cases q2 : f0 k % 4 = 2
          · have q2b : (f0 k % 4 == 2) = true := by simp [q2]
            clear q0 q1 q2
            go_wp2_with fail
            refine (two_rem (f1 k) HT.out (by omega)).mono ?_
            rintro e w2 ⟨rfl, T1⟩
            obtain ⟨l0, l1, l2⟩ := loc_cells T1.loc
            have HT1 := hide T1
            clear T1 HT
            go_wp2_with fail
            refine (idx12_any (f1 k) HT1.out.ent (by omega)).mono ?_
            rintro e w3 ⟨rfl, rfl⟩
            rcases HC.out with ⟨k1, k2, k3, k4⟩ | ⟨j, e, k1, k2, k3, k4, k5⟩
            · rw [k2]
              have E2 := hide k4
              have HT5 := hide HT1.out.duo
              clear k1 k2 k3 k4 HC HT1 l0 l1 l2
              go_wp2
              go_roundw
              case rel => exact ⟨k + 1, _, by omega, by go_num, (HT5.out.mono (by omega)).to (by rw [E2.out])⟩
              case measure => simp [intOf]; omega
            · rw [k2]
              have hjlt := (List.getElem?_eq_some_iff.1 k3).1
              have E3 := hide k5
              clear k1 k2 k3 k4 k5 HC l0 l1 l2
              go_wp2_with fail
              refine (del13_any _ HT1.out.ent (by omega)).mono ?_
              rintro e w4 ⟨v4, rfl, E4, b4⟩
              have HT5 := hide (HT1.out.model b4 E4).duo
              clear HT1 E4 b4
              go_wp2
              go_roundw
              case rel => exact ⟨k + 1, _, by omega, by go_num, (HT5.out.mono (by omega)).to (by rw [E3.out])⟩
              case measure => simp [intOf]; omega
          have q2b : (f0 k % 4 == 2) = false := by simp [q2]
          clear q0 q1 q2
          go_wp2_with fail
          refine (two_ev HT.out (by omega)).mono ?_
          rintro e w2 ⟨rfl, T1⟩
          have HT1 := hide T1
          clear T1 HT HC
          by_cases hm0 : m = []
          · subst hm0
            have HT5 := hide HT1.out.duo
            clear HT1
            go_wp2
            go_roundw
            case rel => exact ⟨k + 1, _, by omega, by go_num, (HT5.out.mono (by omega)).to (rfl)⟩
            case measure => simp [intOf]; omega
          · have hml : 0 < m.length := List.length_pos_iff.2 hm0
            have hml' : (0 : Int) < (m.length : Int) := by omega
            have E3 := hide (eI_last m hm0)
            clear hm0
            go_wp2_with fail
            refine (del13_any _ HT1.out.ent (by omega)).mono ?_
            rintro e w4 ⟨v4, rfl, E4, b4⟩
            have HT5 := hide (HT1.out.model b4 E4).duo
            clear HT1 E4 b4
            go_wp2
            go_roundw
            case rel => exact ⟨k + 1, _, by omega, by go_num, (HT5.out.mono (by omega)).to (by rw [E3.out])⟩
            case measure => simp [intOf]; omega
        · have hlt' : ¬ ((k : Int) < (len : Int)) := by omega
          obtain ⟨nv, n, f, I, hn, E, hs, bw⟩ := T
          have HI := hide I
          obtain ⟨K, V, P, X, L, F, c, r, hm, d, l⟩ := I
          obtain ⟨an, ncap, nb, rfl, hna, _, _⟩ := c.row.form
          have c0 := c.c0
          have hcw := c.lt
          have HCM := hide c
          have HE := hide E
          have HNA := hide hna
          have HB := hide bw
          have HDC := hide (hasK_cases m key d)
          obtain ⟨i0, hi, hz0, hz1, hz2⟩ := info_parts Ybgv.info42
          obtain ⟨SB, hSB⟩ : ∃ SB, SB = wr.heap.size := ⟨_, rfl⟩
          have HSB := hide hSB
          clear hSB
          have hbs := bw.size
          have hLm : Hid (L.length = m.length) := by unfold Hid; rw [hm, ents_length]
          clear c hna r d l hs bw E hm
          go_wp2_with (at_make; refine wpList_make_full _ rfl _ _ 38 rfl w.heap.size 42 i0 (.agg #[.int .i64 0, .int .i64 0, .int .i64 0, .int .i64 0]) 4 Ybgv.underlying38 hi hz0 hz1 _ _ _ _ n rfl rfl rfl rfl (by rw [hz2]; omega) (by unfold maxLen; omega) hbs ?_)
          intro ws hown0 hgrow0
          have N0 := hide (NodesTo.zero (K := K) (V := V) (P := P) (X := X) hown0)
          have B0 := hide ((Below.refl wr.heap.size wr).grown hgrow0 (Nat.le_refl _) (by simp))
          clear hown0 hgrow0 hi hz0 hz1 hz2 c0
          go_wp2
          go_loopw [17] (fun j w2 => ∃ k2 : Nat, k2 ≤ n ∧ j = .int .i64 k2 ∧ NodesTo w2 w.heap.size wr.heap.size n k2 K V P X ∧ Below wr.heap.size wr w2) (fun j _ => n - (intOf j).toNat)
          case atStart => exact ⟨0, Nat.zero_le _, rfl, N0.out, B0.out⟩
          case round =>
            clear N0 B0
            obtain ⟨k2, hk2, rfl, N2, B2⟩ := hrel
            have c' := HCM.out.below B2
            have c0 := c'.c0
            by_cases hlt2 : k2 < n
            · have hlt2' : (k2 : Int) < (n : Int) := by omega
              obtain rfl := HNA.out (by omega)
              obtain ⟨gk, gv, gp, gx⟩ := c'.row.cells hlt2
              obtain ⟨o0, o1, o2, o3, x0, x1, x2, x3⟩ := N2.old hlt2
              have fz := N2.frozen
              have N3 := hide (N2.step hlt2)
              have B3 := hide B2
              have hsl := N2.lt.2
              clear N2 B2 c'
              go_wp2
              go_roundw
              case rel => exact ⟨k2 + 1, by omega, by go_num, N3.out, (((B3.out.setCell (Nat.le_refl _) _).setCell (Nat.le_refl _) _).setCell (Nat.le_refl _) _).setCell (Nat.le_refl _) _⟩
              case measure => simp [intOf]; omega
            · have hlt2' : ¬ ((k2 : Int) < (n : Int)) := by omega
              obtain rfl : k2 = n := by omega
              have c1 := c'.c1
              have c2' := c'.c2
              have c3 := c'.c3
              have c4 := c'.c4
              have c5 := c'.c5
              have HN2 := hide N2
              have HB2 := hide B2
              have HCM2 := hide c'
              have HI2 := hide (HI.out.below B2)
              have HE2 := hide (HE.out.below B2)
              clear N2 B2 c' HI HE HCM
              go_wp2
              go_quiet (fail)
              have HI3 := hide (HI2.out.heap (w' := wr.drewN nq) (fun _ _ => rfl))
              have HE3 := hide (HE2.out.heap (w' := wr.drewN nq) (fun _ _ => rfl))
              have HN3 : Hid (NodesTo (wr.drewN nq) w.heap.size SB k2 k2 K V P X) := by unfold Hid; rw [HSB.out]; exact HN2.out.heap rfl
              have HCM3 := hide (HCM2.out.heap (w' := wr.drewN nq) (fun _ _ => rfl))
              have HB3 : Hid (Below w.heap.size w (wr.drewN nq)) := HB.out.trans ((HB2.out.mono hbs).trans ⟨rfl, rfl, rfl, Nat.le_refl _, fun _ _ => rfl⟩)
              clear HI2 HE2 HN2 HCM2 HB HB2
              go_wp2_with fail
              refine (peek_any key HI3.out (by omega)).mono ?_
              rintro e w3 ⟨rfl, rfl⟩
              go_wp2_with fail
              refine (idx12_any key HE3.out (by omega)).mono ?_
              rintro e w3 ⟨rfl, rfl⟩
              have hLl : ((L.length : Int) != (m.length : Int)) = false := by rw [hLm.out]; simp
              rcases HDC.out with ⟨k1, k5, k3, k4⟩ | ⟨j, e, k1, k5, k3, k4, k6⟩
              · rw [k1, k5, k3]
                clear k1 k5 k3 k4 HDC
                go_wp2
                go_loopw [28] (fun j w3 => ∃ k3 : Nat, k3 ≤ k2 ∧ j = .int .i64 k3 ∧ CMem w3 w.heap.size w.heap.size (.slice an k2 ncap) k2 K V P X (hd L) (lst L) f L.length cp ∧ NodesTo w3 w.heap.size SB k2 k2 K V P X ∧ Below w.heap.size w w3) (fun j _ => k2 - (intOf j).toNat)
                case atStart => exact ⟨0, Nat.zero_le _, rfl, HCM3.out, HN3.out, HB3.out⟩
                case round =>
                  clear HCM3 HN3 HB3 HI3 HE3
                  obtain ⟨k3, hk3, rfl, C3, N3, B3⟩ := hrel
                  rw [HSB.out] at N3
                  by_cases hlt3 : k3 < k2
                  · have hlt3' : (k3 : Int) < (k2 : Int) := by omega
                    obtain rfl := HNA.out (by omega)
                    obtain ⟨gk, gv, gp, gx⟩ := C3.row.cells hlt3
                    obtain ⟨y0, y1, y2, y3⟩ := N3.cells hlt3 (Nat.le_refl _)
                    have c0 := C3.c0
                    have HC3 := hide C3
                    have HN3 := hide N3
                    have HB3 := hide B3
                    clear C3 N3 B3
                    go_wp2
                    go_quiet (fail)
                    go_wp2
                    go_roundw
                    case rel => exact ⟨k3 + 1, by omega, by go_num, HC3.out.heap (fun _ _ => rfl), by rw [HSB.out]; exact HN3.out.heap rfl, HB3.out.trans ⟨rfl, rfl, rfl, Nat.le_refl _, fun _ _ => rfl⟩⟩
                    case measure => simp [intOf]; omega
                  · have hlt3' : ¬ ((k3 : Int) < (k2 : Int)) := by omega
                    have HB3 := hide B3
                    clear C3 N3 B3
                    go_wp2
                    go_ret
                    exact ⟨rfl, HB3.out⟩
              · rw [k1, k5]
                have hjlt := (List.getElem?_eq_some_iff.1 k3).1
                have hjlt' : (j : Int) < (m.length : Int) := by omega
                obtain rfl := HA.out (by omega)
                obtain ⟨p1, p2⟩ := HE3.out.cells k3
                subst k4
                clear k1 k5 k3 k6 HDC p1
                go_wp2
                go_loopw [28] (fun j w3 => ∃ k3 : Nat, k3 ≤ k2 ∧ j = .int .i64 k3 ∧ CMem w3 w.heap.size w.heap.size (.slice an k2 ncap) k2 K V P X (hd L) (lst L) f L.length cp ∧ NodesTo w3 w.heap.size SB k2 k2 K V P X ∧ Below w.heap.size w w3) (fun j _ => k2 - (intOf j).toNat)
                case atStart => exact ⟨0, Nat.zero_le _, rfl, HCM3.out, HN3.out, HB3.out⟩
                case round =>
                  clear HCM3 HN3 HB3 HI3 HE3
                  obtain ⟨k3, hk3, rfl, C3, N3, B3⟩ := hrel
                  rw [HSB.out] at N3
                  by_cases hlt3 : k3 < k2
                  · have hlt3' : (k3 : Int) < (k2 : Int) := by omega
                    obtain rfl := HNA.out (by omega)
                    obtain ⟨gk, gv, gp, gx⟩ := C3.row.cells hlt3
                    obtain ⟨y0, y1, y2, y3⟩ := N3.cells hlt3 (Nat.le_refl _)
                    have c0 := C3.c0
                    have HC3 := hide C3
                    have HN3 := hide N3
                    have HB3 := hide B3
                    clear C3 N3 B3
                    go_wp2
                    go_quiet (fail)
                    go_wp2
                    go_roundw
                    case rel => exact ⟨k3 + 1, by omega, by go_num, HC3.out.heap (fun _ _ => rfl), by rw [HSB.out]; exact HN3.out.heap rfl, HB3.out.trans ⟨rfl, rfl, rfl, Nat.le_refl _, fun _ _ => rfl⟩⟩
                    case measure => simp [intOf]; omega
                  · have hlt3' : ¬ ((k3 : Int) < (k2 : Int)) := by omega
                    have HB3 := hide B3
                    clear C3 N3 B3
                    go_wp2
                    go_ret
                    exact ⟨rfl, HB3.out⟩
  · have hl : (1024 : Int) < (len : Int) := by omega
    clear ho h0
    go_enter Ybgv.func3, Ybgv.ntmps3
    go_wp2
    go_ret
    exact ⟨rfl, Below.refl _ _⟩

end Go.Proofs.Ymwhbg
