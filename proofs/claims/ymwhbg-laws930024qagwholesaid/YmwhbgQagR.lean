/-
  The law QAG: its run of a script.
-/
import Derived.Test.YmwhbgQagM
namespace Go.Proofs.Ymwhbg
open Go.RowKit
set_option linter.unusedVariables false
set_option linter.unusedSimpArgs false

set_option maxHeartbeats 4000000 in
set_option maxRecDepth 100000 in
theorem run34_any (c : Int) (a : Option Addr) (len c2 : Nat) (f0 f1 f2 : Nat → Int) (w : World) (ho : Ops3 .u8 .u8 .u8 w a len f0 f1 f2) (h0 : ∀ k, k < len → (0 ≤ f0 k ∧ f0 k ≤ 255) ∧ (0 ≤ f1 k ∧ f1 k ≤ 255) ∧ (0 ≤ f2 k ∧ f2 k ≤ 255)) (hlen : len ≤ 300) :
    Calls Ybgv.prog 34 #[.int .i64 c, .slice a len c2] w fun e w' => ∃ v, e = .returned (.tuple #[.pointer (some ⟨w.heap.size, 0, none⟩), v]) ∧ ∃ M, Duo w w' w.heap.size (max c 0) len M v M := by
  generalize hcp : max c 0 = cp
  have HCP := hide hcp
  have HO := hide ho
  have H0 := hide h0
  clear ho h0 hcp
  go_enter Ybgv.func34, Ybgv.ntmps34
  go_wp2_with fail
  refine (new_any c w w.heap.size (Nat.le_refl _)).mono ?_
  rintro e w1 ⟨rfl, I1, b1⟩
  rw [HCP.out] at I1
  have T0 := hide (duo_new I1 b1).lit0
  clear I1 b1
  go_wp2_with fail
  refine (norm38_any c _).mono ?_
  rintro e w1' ⟨rfl, h1'⟩
  rw [h1', HCP.out]
  clear h1' w1'
  go_wp2
  go_loopw [7, 21] (fun v i wr => ∃ (k : Nat) (m : List (Int × Int)), k ≤ len ∧ i = .int .i64 k ∧ Duo w wr w.heap.size cp k m v m) (fun _ i _ => len - (intOf i).toNat)
  case atStart => exact ⟨0, [], Nat.zero_le _, rfl, T0.out⟩
  case round =>
      clear T0
      obtain ⟨k, m, hk, rfl, T⟩ := hrel
      obtain ⟨a', cap', b', rfl, ha', _, _, hlc⟩ := T.ent.form
      have HA := hide ha'
      clear ha'
      obtain ⟨tl1, tl2⟩ := T.len
      by_cases hlt : k < len
      · have hlt' : (k : Int) < (len : Int) := by omega
        obtain ⟨b, off, rfl, hb, g0, g1, g2⟩ := HO.out k hlt
        obtain ⟨⟨z1, z2⟩, ⟨z3, z4⟩, z5, z6⟩ := H0.out k hlt
        have g0' := (T.below.cell (p := ⟨b, off + k * 3, none⟩) hb).trans g0
        have g1' := (T.below.cell (p := ⟨b, off + k * 3 + 1, none⟩) hb).trans g1
        have g2' := (T.below.cell (p := ⟨b, off + k * 3 + 2, none⟩) hb).trans g2
        clear g0 g1 g2
        have HT := hide (T.loc (.cells #[.int .u8 (f0 k), .int .u8 (f1 k), .int .u8 (f2 k)] 91))
        have HD := hide T.dis
        clear T
        by_cases q0 : f0 k % 4 = 0
        · have q0b : (f0 k % 4 == 0) = true := by simp [q0]
          clear q0
          go_wp2_with fail
          refine (two_put (f1 k % 5) (f2 k % 4) HT.out (by omega)).mono ?_
          rintro e w2 ⟨rfl, T1⟩
          have HT1 := hide T1
          have hbs := T1.below.size
          clear T1 HT
          go_wp2_with fail
          refine (put54_any cp (f1 k % 5) (f2 k % 4) HT1.out.ent hbs HD.out (by omega) (by omega)).mono ?_
          rintro e w3 ⟨v3, rfl, R3⟩
          have HT5 := hide (HT1.out.res R3).duo
          clear HT1 R3 hbs
          go_wp2
          go_roundw
          case rel => exact ⟨k + 1, _, by omega, by go_num, (HT5.out.mono (by omega)).to (rfl)⟩
          case measure => simp [intOf]; omega
        have q0b : (f0 k % 4 == 0) = false := by simp [q0]
        by_cases q1 : f0 k % 4 = 1
        · have q1b : (f0 k % 4 == 1) = true := by simp [q1]
          clear q0 q1
          go_wp2_with fail
          refine (two_get (f1 k % 5) HT.out (by omega)).mono ?_
          rintro e w2 ⟨rfl, T1⟩
          have HT1 := hide T1
          have hbs := T1.below.size
          clear T1 HT
          go_wp2_with fail
          refine (get55_any (f1 k % 5) HT1.out.ent hbs HD.out (by omega)).mono ?_
          rintro e w3 ⟨v3, rfl, R3⟩
          have HT5 := hide (HT1.out.res R3).duo
          clear HT1 R3 hbs
          go_wp2
          go_roundw
          case rel => exact ⟨k + 1, _, by omega, by go_num, (HT5.out.mono (by omega)).to (rfl)⟩
          case measure => simp [intOf]; omega
        have q1b : (f0 k % 4 == 1) = false := by simp [q1]
        by_cases q2 : f0 k % 4 = 2
        · have q2b : (f0 k % 4 == 2) = true := by simp [q2]
          clear q0 q1 q2
          go_wp2_with fail
          refine (two_rem (f1 k % 5) HT.out (by omega)).mono ?_
          rintro e w2 ⟨rfl, T1⟩
          have HT1 := hide T1
          clear T1 HT
          go_wp2_with fail
          refine (idx56_any (f1 k % 5) HT1.out.ent (by omega)).mono ?_
          rintro e w3 ⟨rfl, rfl⟩
          rcases hasK_cases m (f1 k % 5) HD.out with ⟨k1, k2, k3, k4⟩ | ⟨j, e, k1, k2, k3, k4, k5⟩
          · rw [k2]
            have HG := hide k4.symm
            have HT5 := hide HT1.out.duo
            clear k1 k2 k3 k4 HT1
            go_wp2
            go_roundw
            case rel => exact ⟨k + 1, _, by omega, by go_num, (HT5.out.mono (by omega)).to (HG.out)⟩
            case measure => simp [intOf]; omega
          · rw [k2]
            have K5 := hide k5
            clear k1 k2 k3 k4 k5
            go_wp2_with fail
            refine (del57_any j HT1.out.ent (by omega)).mono ?_
            rintro e w4 ⟨v4, rfl, E4, b4⟩
            rw [K5.out] at E4
            have HT5 := hide (HT1.out.model b4 E4).duo
            clear E4 b4 HT1
            go_wp2
            go_roundw
            case rel => exact ⟨k + 1, _, by omega, by go_num, (HT5.out.mono (by omega)).to (rfl)⟩
            case measure => simp [intOf]; omega
        have q2b : (f0 k % 4 == 2) = false := by simp [q2]
        clear q0 q1 q2
        go_wp2_with fail
        refine (two_ev HT.out (by omega)).mono ?_
        rintro e w2 ⟨rfl, T1⟩
        have HT1 := hide T1
        clear T1 HT
        by_cases hm0 : m = []
        · have E3 : Hid (m = m.dropLast) := by unfold Hid; rw [hm0]; rfl
          have hml' : ¬ ((0 : Int) < (m.length : Int)) := by rw [hm0]; simp
          have HT5 := hide HT1.out.duo
          clear HT1 hm0
          go_wp2
          go_roundw
          case rel => exact ⟨k + 1, _, by omega, by go_num, (HT5.out.mono (by omega)).to (E3.out)⟩
          case measure => simp [intOf]; omega
        · have hml : 0 < m.length := List.length_pos_iff.2 hm0
          have hml' : (0 : Int) < (m.length : Int) := by omega
          have E3 := hide (eI_last m hm0)
          clear hm0
          go_wp2_with fail
          refine (del57_any _ HT1.out.ent (by omega)).mono ?_
          rintro e w4 ⟨v4, rfl, E4, b4⟩
          rw [E3.out] at E4
          have HT5 := hide (HT1.out.model b4 E4).duo
          clear E4 b4 HT1
          go_wp2
          go_roundw
          case rel => exact ⟨k + 1, _, by omega, by go_num, (HT5.out.mono (by omega)).to (rfl)⟩
          case measure => simp [intOf]; omega
      · have hlt' : ¬ ((k : Int) < (len : Int)) := by omega
        have HT := hide (T.mono hk)
        clear T
        go_wp2
        go_ret2
        exact ⟨_, rfl, m, HT.out⟩

end Go.Proofs.Ymwhbg
