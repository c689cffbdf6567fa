/-
  The law QAF: its walk.
-/
import Derived.Test.YmwhbgQafC
namespace Go.Proofs.Ymwhbg
open Go.RowKit
set_option linter.unusedVariables false
set_option linter.unusedSimpArgs false

theorem duo_step {w0 w w' : World} {cb : Nat} {cp : Int} {N' : Nat} {mc mc' mm : List (Int × Int)} {v : Value} {nv nv' : Value} {n n' : Nat} {f f' : Int} (I : Inv w w0.heap.size cb nv n f cp mc) (E : EntB w w0.heap.size v mm) (hs : ∀ k, v.ownBlock = some k → ¬ own cb nv k) (b : Below w0.heap.size w0 w)
    (I' : Inv w' w0.heap.size cb nv' n' f' cp mc') (hn' : n' ≤ N') (g : Fr (own cb nv) w w') (hf : ∀ j, nv'.ownBlock = some j → nv.ownBlock = some j ∨ w.heap.size ≤ j) :
    Duo w0 w' cb cp N' mc' v mm := by
  have hno : ∀ k, k < w.heap.size → ¬ own cb nv k → ¬ own cb nv' k := by
    rintro k hk hn (h | h)
    · exact hn (.inl h)
    · rcases hf k h with h' | h'
      · exact hn (.inr h')
      · omega
  exact ⟨nv', n', f', I', hn', E.fr g hs, fun k hk => hno k (E.lt k hk).2 (hs k hk), b.trans (g.toBelow b.size (fun k hk => (I.own_lt k hk).1))⟩
theorem duo_rem {w0 w : World} {cb : Nat} {cp : Int} {N : Nat} {mc mm : List (Int × Int)} {v : Value} (k : Int) (T : Duo w0 w cb cp N mc v mm) (hN : N ≤ 80000) :
    Calls Ybgv.prog 16 #[.pointer (some ⟨cb, 0, none⟩), .int .i64 k] w fun e w' =>
      e = .returned (.tuple #[.int .i64 (valOf mc k), .bool (hasK mc k)]) ∧ Duo w0 w' cb cp N (del mc k) v mm := by
  obtain ⟨nv, n, f, I, hn, E, hs, b⟩ := T
  refine (remove_any k I (by omega)).mono ?_
  rintro e w' ⟨rfl, ⟨f', I'⟩, g⟩
  exact ⟨rfl, duo_step I E hs b I' hn g (fun j hj => .inl hj)⟩

set_option maxHeartbeats 4000000 in
set_option maxRecDepth 100000 in
theorem qaf_any (cs key : Int) (a : Option Addr) (len c2 : Nat) (f0 f1 f2 : Nat → Int) (w : World) (ho : Ops3 .u8 .u8 .i64 w a len f0 f1 f2) (hcs : 0 ≤ cs ∧ cs ≤ 255) (h0 : ∀ k, k < len → (0 ≤ f0 k ∧ f0 k ≤ 255) ∧ (0 ≤ f1 k ∧ f1 k ≤ 255)) :
    Calls Ybgv.prog 6 #[.int .u8 cs, .slice a len c2, .int .i64 key] w fun e w' => e = .returned (.bool true) ∧ Below w.heap.size w w' := by
  obtain ⟨hcs1, hcs2⟩ := hcs
  by_cases hlen : len ≤ 1024
  · have hl : ¬ ((1024 : Int) < (len : Int)) := by omega
    have HO := hide ho
    have H0 := hide h0
    clear ho h0
    go_enter Ybgv.func6, Ybgv.ntmps6
    go_wp2_with fail
    refine (new_any (cs % 10) w w.heap.size (Nat.le_refl _)).mono ?_
    rintro e w1 ⟨rfl, I1, b1⟩
    rw [show max (cs % 10) 0 = cs % 10 by omega] at I1
    have T0 := hide (duo_new I1 b1)
    clear I1 b1
    have hcp0 : 0 ≤ cs % 10 := by omega
    have hcp9 : cs % 10 ≤ 9 := by omega
    generalize cs % 10 = cp at *
    obtain ⟨c, rfl⟩ := Int.eq_ofNat_of_zero_le hcp0
    go_wp2
    go_loopw [9, 28] (fun v i wr => ∃ (k : Nat) (m : List (Int × Int)), k ≤ len ∧ i = .int .i64 k ∧ Duo w wr w.heap.size c k m v m) (fun _ i _ => len - (intOf i).toNat)
    case atStart => exact ⟨0, [], Nat.zero_le _, rfl, T0.out⟩
    case round =>
        clear T0
        obtain ⟨k, m, hk, rfl, T⟩ := hrel
        obtain ⟨a', cap', b', rfl, ha', _, _, hlc⟩ := T.ent.form
        have HA := hide ha'
        clear ha'
        obtain ⟨tl1, tl2⟩ := T.len
        by_cases hlt : k < len
        · have hlt' : (k : Int) < (len : Int) := by omega
          obtain ⟨b, off, rfl, hb, g0, g1, g2⟩ := HO.out k hlt
          obtain ⟨⟨z1, z2⟩, z3, z4⟩ := H0.out k hlt
          have g0' := (T.below.cell (p := ⟨b, off + k * 3, none⟩) hb).trans g0
          have g1' := (T.below.cell (p := ⟨b, off + k * 3 + 1, none⟩) hb).trans g1
          have g2' := (T.below.cell (p := ⟨b, off + k * 3 + 2, none⟩) hb).trans g2
          clear g0 g1 g2
          have HT := hide (T.loc (.cells #[.int .u8 (f0 k), .int .u8 (f1 k), .int .i64 (f2 k)] 56))
          have HD := hide T.dis
          clear T
          by_cases q0 : f0 k % 4 = 0
          · have q0b : (f0 k % 4 == 0) = true := by simp [q0]
            clear q0
            go_wp2_with fail
            refine (two_put (f1 k % 8 - 2) (f2 k) HT.out (by omega)).mono ?_
            rintro e w2 ⟨rfl, T1⟩
            obtain ⟨l0, l1, l2⟩ := loc_cells T1.loc
            have HT1 := hide T1
            have hbs := T1.below.size
            clear T1 HT
            go_wp2_with fail
            refine (put25_any c (f1 k % 8 - 2) (f2 k) HT1.out.ent hbs HD.out (by omega) (by omega) (by omega)).mono ?_
            rintro e w3 ⟨v3, rfl, R3⟩
            have HT5 := hide (HT1.out.res R3).duo
            clear HT1 R3 l0 l1 l2 hbs
            go_wp2
            go_roundw
            case rel => exact ⟨k + 1, _, by omega, by go_num, (HT5.out.mono (by omega)).to (rfl)⟩
            case measure => simp [intOf]; omega
          have q0b : (f0 k % 4 == 0) = false := by simp [q0]
          by_cases q1 : f0 k % 4 = 1
          · have q1b : (f0 k % 4 == 1) = true := by simp [q1]
            clear q0 q1
            go_wp2_with fail
            refine (two_get (f1 k % 8 - 2) HT.out (by omega)).mono ?_
            rintro e w2 ⟨rfl, T1⟩
            have HT1 := hide T1
            have hbs := T1.below.size
            clear T1 HT
            go_wp2_with fail
            refine (get26_any (f1 k % 8 - 2) HT1.out.ent hbs HD.out (by omega)).mono ?_
            rintro e w3 ⟨v3, rfl, R3⟩
            have HT5 := hide (HT1.out.res R3).duo
            clear HT1 R3 hbs
            go_wp2
            go_roundw
            case rel => exact ⟨k + 1, _, by omega, by go_num, (HT5.out.mono (by omega)).to (rfl)⟩
            case measure => simp [intOf]; omega
          have q1b : (f0 k % 4 == 1) = false := by simp [q1]
          by_cases q2 : f0 k % 4 = 2
          · have q2b : (f0 k % 4 == 2) = true := by simp [q2]
            clear q0 q1 q2
            go_wp2_with fail
            refine (two_rem (f1 k % 8 - 2) HT.out (by omega)).mono ?_
            rintro e w2 ⟨rfl, T1⟩
            have HT1 := hide T1
            have hbs := T1.below.size
            clear T1 HT
            go_wp2_with fail
            refine (rem27_any (f1 k % 8 - 2) HT1.out.ent hbs HD.out (by omega)).mono ?_
            rintro e w3 ⟨v3, rfl, R3⟩
            have HT5 := hide (HT1.out.res R3).duo
            clear HT1 R3 hbs
            go_wp2
            go_roundw
            case rel => exact ⟨k + 1, _, by omega, by go_num, (HT5.out.mono (by omega)).to (rfl)⟩
            case measure => simp [intOf]; omega
          have q2b : (f0 k % 4 == 2) = false := by simp [q2]
          clear q0 q1 q2
          go_wp2_with fail
          refine (two_ev HT.out (by omega)).mono ?_
          rintro e w2 ⟨rfl, T1⟩
          have HT1 := hide T1
          clear T1 HT
          by_cases hm0 : m = []
          · have E3 : Hid (m = m.dropLast) := by unfold Hid; rw [hm0]; rfl
            have hml' : ¬ ((0 : Int) < (m.length : Int)) := by rw [hm0]; simp
            have HT5 := hide HT1.out.duo
            clear HT1 hm0
            go_wp2
            go_roundw
            case rel => exact ⟨k + 1, _, by omega, by go_num, (HT5.out.mono (by omega)).to (E3.out)⟩
            case measure => simp [intOf]; omega
          · have hml : 0 < m.length := List.length_pos_iff.2 hm0
            have hml' : (0 : Int) < (m.length : Int) := by omega
            obtain rfl := HA.out hml
            have HT5 := hide HT1.out.cut.duo
            clear hm0 HT1 HA
            go_wp2
            go_roundw
            case rel => exact ⟨k + 1, _, by omega, by go_num, (HT5.out.mono (by omega)).to (rfl)⟩
            case measure => simp [intOf]; omega
        · have hlt' : ¬ ((k : Int) < (len : Int)) := by omega
          have HD := hide T.dis
          have HT := hide T
          have hbs := T.below.size
          clear T
          go_wp2_with fail
          refine (rem27_any key HT.out.ent hbs HD.out (by omega)).mono ?_
          rintro e w3 ⟨v3, rfl, R3⟩
          have HT3 := hide (HT.out.res R3)
          clear HT R3
          go_wp2_with fail
          refine (duo_rem key HT3.out (by omega)).mono ?_
          rintro e w4 ⟨rfl, T4⟩
          have HT4 := hide T4
          clear T4 HT3
          go_wp2_with fail
          obtain ⟨nv, n, f, I, hn, E, hs, bw⟩ := HT4.out
          refine (check28_any I E (by omega)).mono ?_
          rintro e w5 ⟨rfl, b5⟩
          have BW := hide (bw.trans (b5.mono bw.size))
          clear I E hs bw b5 HT4
          go_wp2
          go_ret
          exact ⟨rfl, BW.out⟩
  · have hl : (1024 : Int) < (len : Int) := by omega
    clear ho h0
    go_enter Ybgv.func6, Ybgv.ntmps6
    go_wp2
    go_ret
    exact ⟨rfl, Below.refl _ _⟩

end Go.Proofs.Ymwhbg
