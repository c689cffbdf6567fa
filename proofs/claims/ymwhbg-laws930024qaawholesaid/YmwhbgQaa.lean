/-
  The law QAA: its walk.
-/
import Derived.Test.YmwhbgQaaM
import Derived.Test.YmwhbgSnap
import Derived.Deep.QuietTactic
import Derived.BigQuiet
namespace Go.Proofs.Ymwhbg
open Go.RowKit
set_option linter.unusedVariables false
set_option linter.unusedSimpArgs false

theorem Duo.model {w0 w w' : World} {cb : Nat} {cp : Int} {N : Nat} {mc mm mm' : List (Int × Int)} {v v' : Value} (T : Duo w0 w cb cp N mc v mm) (hb : Below w.heap.size w w') (E' : EntB w' w.heap.size v' mm') : Duo w0 w' cb cp N mc v' mm' := by
  obtain ⟨nv, n, f, I, hn, E, hs, b⟩ := T
  have hsz := b.size
  refine ⟨nv, n, f, I.below hb, hn, E'.down hsz, ?_, b.trans (hb.mono hsz)⟩
  intro k hk ho
  have := (E'.lt k hk).1
  have := (I.own_lt k ho).2
  omega

set_option maxHeartbeats 4000000 in
set_option maxRecDepth 100000 in
theorem qaa_any (cap : Int) (a : Option Addr) (len c2 : Nat) (f0 f1 f2 : Nat → Int) (w : World) (ho : Ops3 .u8 .u8 .i64 w a len f0 f1 f2) (h0 : ∀ k, k < len → (0 ≤ f0 k ∧ f0 k ≤ 255) ∧ (0 ≤ f1 k ∧ f1 k ≤ 255)) :
    Calls Ybgv.prog 4 #[.int .i64 cap, .slice a len c2] w fun e w' => e = .returned (.bool true) ∧ Below w.heap.size w w' := by
  by_cases hlen : len ≤ 1024
  · have hl : ¬ ((1024 : Int) < (len : Int)) := by omega
    have HO := hide ho
    have H0 := hide h0
    clear ho h0
    go_enter Ybgv.func4, Ybgv.ntmps4
    go_wp2_with fail
    refine (new_any cap w w.heap.size (Nat.le_refl _)).mono ?_
    rintro e w1 ⟨rfl, I1, b1⟩
    have T0 := hide (duo_new I1 b1)
    clear I1 b1
    have hcp : 0 ≤ max cap 0 := by omega
    have HM := hide (fun (w' : World) (hb : Below w.heap.size w w') => model19_any cap a len c2 f0 f1 f2 w' (fun k hk => by
      obtain ⟨b, off, e1, e2, e3, e4, e5⟩ := HO.out k hk
      exact ⟨b, off, e1, Nat.lt_of_lt_of_le e2 hb.size, (hb.cell (p := ⟨b, off + k * 3, none⟩) e2).trans e3, (hb.cell (p := ⟨b, off + k * 3 + 1, none⟩) e2).trans e4, (hb.cell (p := ⟨b, off + k * 3 + 2, none⟩) e2).trans e5⟩) H0.out hlen)
    generalize max cap 0 = cp at *
    go_wp2
    go_loopw [6] (fun i wr => ∃ (k : Nat), k ≤ len ∧ i = .int .i64 k ∧ Duo w wr w.heap.size cp k (runM cp f0 (fun i => f1 i % 8) f2 k) (.slice none 0 0) []) (fun i _ => len - (intOf i).toNat)
    case atStart => exact ⟨0, Nat.zero_le _, rfl, T0.out⟩
    case round =>
        clear T0
        obtain ⟨k, hk, rfl, T⟩ := hrel
        by_cases hlt : k < len
        · have hlt' : (k : Int) < (len : Int) := by omega
          have HR := hide (runM_succ cp f0 (fun i => f1 i % 8) f2 k)
          generalize runM cp f0 (fun i => f1 i % 8) f2 k = m at *
          obtain ⟨b, off, rfl, hb, g0, g1, g2⟩ := HO.out k hlt
          obtain ⟨⟨z1, z2⟩, z3, z4⟩ := H0.out k hlt
          have g0' := (T.below.cell (p := ⟨b, off + k * 3, none⟩) hb).trans g0
          have g1' := (T.below.cell (p := ⟨b, off + k * 3 + 1, none⟩) hb).trans g1
          have g2' := (T.below.cell (p := ⟨b, off + k * 3 + 2, none⟩) hb).trans g2
          clear g0 g1 g2
          have HT := hide (T.loc (.cells #[.int .u8 (f0 k), .int .u8 (f1 k), .int .i64 (f2 k)] 46))
          clear T
          by_cases q0 : f0 k % 4 = 0
          · have q0b : (f0 k % 4 == 0) = true := by simp [q0]
            have ER := hide (stepM_put (cp := cp) (k := f1 k % 8) (v := f2 k) (m := m) q0)
            clear q0
            go_wp2_with fail
            refine (two_put (f1 k % 8) (f2 k) HT.out (by omega)).mono ?_
            rintro e w2 ⟨rfl, T1⟩
            have HT5 := hide T1.duo
            clear T1 HT
            go_wp2
            go_roundw
            case rel => exact ⟨k + 1, by omega, by go_num, by rw [HR.out, ER.out]; exact HT5.out.mono (by omega)⟩
            case measure => simp [intOf]; omega
          have q0b : (f0 k % 4 == 0) = false := by simp [q0]
          by_cases q1 : f0 k % 4 = 1
          · have q1b : (f0 k % 4 == 1) = true := by simp [q1]
            have ER := hide (stepM_get (cp := cp) (k := f1 k % 8) (v := f2 k) (m := m) q0 q1)
            clear q0 q1
            go_wp2_with fail
            refine (two_get (f1 k % 8) HT.out (by omega)).mono ?_
            rintro e w2 ⟨rfl, T1⟩
            have HT5 := hide T1.duo
            clear T1 HT
            go_wp2
            go_roundw
            case rel => exact ⟨k + 1, by omega, by go_num, by rw [HR.out, ER.out]; exact HT5.out.mono (by omega)⟩
            case measure => simp [intOf]; omega
          have q1b : (f0 k % 4 == 1) = false := by simp [q1]
          by_cases q2 : f0 k % 4 = 2
          · have q2b : (f0 k % 4 == 2) = true := by simp [q2]
            have ER := hide (stepM_rem (cp := cp) (k := f1 k % 8) (v := f2 k) (m := m) q0 q1 q2)
            clear q0 q1 q2
            go_wp2_with fail
            refine (two_rem (f1 k % 8) HT.out (by omega)).mono ?_
            rintro e w2 ⟨rfl, T1⟩
            have HT5 := hide T1.duo
            clear T1 HT
            go_wp2
            go_roundw
            case rel => exact ⟨k + 1, by omega, by go_num, by rw [HR.out, ER.out]; exact HT5.out.mono (by omega)⟩
            case measure => simp [intOf]; omega
          have q2b : (f0 k % 4 == 2) = false := by simp [q2]
          have ER := hide (stepM_ev (cp := cp) (k := f1 k % 8) (v := f2 k) (m := m) q0 q1 q2)
          clear q0 q1 q2
          go_wp2_with fail
          refine (two_ev HT.out (by omega)).mono ?_
          rintro e w2 ⟨rfl, T1⟩
          have HT5 := hide T1.duo
          clear T1 HT
          go_wp2
          go_roundw
          case rel => exact ⟨k + 1, by omega, by go_num, by rw [HR.out, ER.out]; exact HT5.out.mono (by omega)⟩
          case measure => simp [intOf]; omega
        · have hlt' : ¬ ((k : Int) < (len : Int)) := by omega
          obtain rfl : k = len := by omega
          obtain ⟨hd, tl1, tl2⟩ := runM_ok cp hcp f0 (fun i => f1 i % 8) f2 k
          generalize runM cp f0 (fun i => f1 i % 8) f2 k = m at *
          have HT := hide T
          clear T hd
          go_wp2_with fail
          refine (HM.out wr HT.out.below).mono ?_
          rintro e wy ⟨v9, rfl, E9, b9⟩
          have T := HT.out.model b9 E9
          clear HT E9 b9 HM
          obtain ⟨a', cap', b', rfl, _, _, _, _⟩ := T.ent.form
          obtain ⟨nv, n, f, I, hn, E, hs, bw⟩ := T
          have HI := hide I
          obtain ⟨K, V, P, X, L, F, c, r, hm, d, l⟩ := I
          obtain ⟨an, ncap, nb, rfl, hna, _, _⟩ := c.row.form
          have c0 := c.c0
          have hcw := c.lt
          have HCM := hide c
          have HE := hide E
          have HNA := hide hna
          have HB := hide bw
          obtain ⟨i0, hi, hz0, hz1, hz2⟩ := info_parts Ybgv.info42
          obtain ⟨SB, hSB⟩ : ∃ SB, SB = wy.heap.size := ⟨_, rfl⟩
          have HSB := hide hSB
          clear hSB
          have hbs := bw.size
          have hLm : Hid (L.length = m.length) := by unfold Hid; rw [hm, ents_length]
          clear c hna r d l hs bw E hm
          go_wp2_with (at_make; refine wpList_make_full _ rfl _ _ 38 rfl w.heap.size 42 i0 (.agg #[.int .i64 0, .int .i64 0, .int .i64 0, .int .i64 0]) 4 Ybgv.underlying38 hi hz0 hz1 _ _ _ _ n rfl rfl rfl rfl (by rw [hz2]; omega) (by unfold maxLen; omega) hbs ?_)
          intro ws hown0 hgrow0
          have N0 := hide (NodesTo.zero (K := K) (V := V) (P := P) (X := X) hown0)
          have B0 := hide ((Below.refl wy.heap.size wy).grown hgrow0 (Nat.le_refl _) (by simp))
          clear hown0 hgrow0 hi hz0 hz1 hz2 c0
          go_wp2
          go_loopw [11] (fun j w2 => ∃ k2 : Nat, k2 ≤ n ∧ j = .int .i64 k2 ∧ NodesTo w2 w.heap.size wy.heap.size n k2 K V P X ∧ Below wy.heap.size wy w2) (fun j _ => n - (intOf j).toNat)
          case atStart => exact ⟨0, Nat.zero_le _, rfl, N0.out, B0.out⟩
          case round =>
            clear N0 B0
            obtain ⟨k2, hk2, rfl, N2, B2⟩ := hrel
            have c' := HCM.out.below B2
            have c0 := c'.c0
            by_cases hlt2 : k2 < n
            · have hlt2' : (k2 : Int) < (n : Int) := by omega
              obtain rfl := HNA.out (by omega)
              obtain ⟨gk, gv, gp, gx⟩ := c'.row.cells hlt2
              obtain ⟨o0, o1, o2, o3, x0, x1, x2, x3⟩ := N2.old hlt2
              have fz := N2.frozen
              have N3 := hide (N2.step hlt2)
              have B3 := hide B2
              have hsl := N2.lt.2
              clear N2 B2 c'
              go_wp2
              go_roundw
              case rel => exact ⟨k2 + 1, by omega, by go_num, N3.out, (((B3.out.setCell (Nat.le_refl _) _).setCell (Nat.le_refl _) _).setCell (Nat.le_refl _) _).setCell (Nat.le_refl _) _⟩
              case measure => simp [intOf]; omega
            · have hlt2' : ¬ ((k2 : Int) < (n : Int)) := by omega
              obtain rfl : k2 = n := by omega
              have c1 := c'.c1
              have c2' := c'.c2
              have c3 := c'.c3
              have c4 := c'.c4
              have c5 := c'.c5
              have HN2 := hide N2
              have HB2 := hide B2
              have HCM2 := hide c'
              have HI2 := hide (HI.out.below B2)
              have HE2 := hide (HE.out.below B2)
              clear N2 B2 c' HI HE HCM
              go_wp2
              go_quiet (fail)
              have HI3 := hide (HI2.out.heap (w' := wr.drewN nq) (fun _ _ => rfl))
              have HE3 := hide (HE2.out.heap (w' := wr.drewN nq) (fun _ _ => rfl))
              have HN3 : Hid (NodesTo (wr.drewN nq) w.heap.size SB k2 k2 K V P X) := by unfold Hid; rw [HSB.out]; exact HN2.out.heap rfl
              have HCM3 := hide (HCM2.out.heap (w' := wr.drewN nq) (fun _ _ => rfl))
              have HB3 : Hid (Below w.heap.size w (wr.drewN nq)) := HB.out.trans ((HB2.out.mono hbs).trans ⟨rfl, rfl, rfl, Nat.le_refl _, fun _ _ => rfl⟩)
              clear HI2 HE2 HN2 HCM2 HB HB2
              go_wp2_with fail
              refine (len_any HI3.out).mono ?_
              rintro e w3 ⟨rfl, rfl⟩
              go_wp2
              go_loopw [18] (fun j w3 => ∃ k3 : Nat, k3 ≤ k2 ∧ j = .int .i64 k3 ∧ CMem w3 w.heap.size w.heap.size (.slice an k2 ncap) k2 K V P X (hd L) (lst L) f L.length cp ∧ NodesTo w3 w.heap.size SB k2 k2 K V P X ∧ Below w.heap.size w w3) (fun j _ => k2 - (intOf j).toNat)
              case atStart => exact ⟨0, Nat.zero_le _, rfl, HCM3.out, HN3.out, HB3.out⟩
              case round =>
                clear HCM3 HN3 HB3 HI3 HE3
                obtain ⟨k3, hk3, rfl, C3, N3, B3⟩ := hrel
                rw [HSB.out] at N3
                by_cases hlt3 : k3 < k2
                · have hlt3' : (k3 : Int) < (k2 : Int) := by omega
                  obtain rfl := HNA.out (by omega)
                  obtain ⟨gk, gv, gp, gx⟩ := C3.row.cells hlt3
                  obtain ⟨y0, y1, y2, y3⟩ := N3.cells hlt3 (Nat.le_refl _)
                  have c0 := C3.c0
                  have HC3 := hide C3
                  have HN3 := hide N3
                  have HB3 := hide B3
                  clear C3 N3 B3
                  go_wp2
                  go_quiet (fail)
                  go_wp2
                  go_roundw
                  case rel => exact ⟨k3 + 1, by omega, by go_num, HC3.out.heap (fun _ _ => rfl), by rw [HSB.out]; exact HN3.out.heap rfl, HB3.out.trans ⟨rfl, rfl, rfl, Nat.le_refl _, fun _ _ => rfl⟩⟩
                  case measure => simp [intOf]; omega
                · have hlt3' : ¬ ((k3 : Int) < (k2 : Int)) := by omega
                  have HB3 := hide B3
                  clear C3 N3 B3
                  go_wp2
                  go_ret
                  exact ⟨rfl, HB3.out⟩
  · have hl : (1024 : Int) < (len : Int) := by omega
    clear ho h0
    go_enter Ybgv.func4, Ybgv.ntmps4
    go_wp2
    go_ret
    exact ⟨rfl, Below.refl _ _⟩

end Go.Proofs.Ymwhbg
