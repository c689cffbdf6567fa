/-
  The law QAA: its model's walk.
-/
import Derived.Test.YmwhbgTwo
import Derived.Test.YmwhbgRun
import Derived.Deep.DeepCutAuto
namespace Go.Proofs.Ymwhbg
open Go.RowKit
set_option linter.unusedVariables false
set_option linter.unusedSimpArgs false

theorem loc3_below {w w' : World} {x y z : Value} {t : TypeId} (h : Below (w.alloc (.cells #[x, y, z] t)).heap.size (w.alloc (.cells #[x, y, z] t)) w') :
    w'.cell? ⟨w.heap.size, 0, none⟩ = some x ∧ w'.cell? ⟨w.heap.size, 1, none⟩ = some y ∧ w'.cell? ⟨w.heap.size, 2, none⟩ = some z := by
  refine loc_cells (t := t) ?_
  rw [h.block _ (by simp)]
  exact heap_alloc_new w _

/-- What the model's loop keeps. -/
def MM (w wr : World) (v : Value) (m : List (Int × Int)) : Prop := EntB wr w.heap.size v m ∧ Below w.heap.size w wr
theorem MM.alloc {w wr : World} {v : Value} {m : List (Int × Int)} (h : MM w wr v m) (o : Obj) : MM w (wr.alloc o) v m := ⟨h.1.alloc o, h.2.alloc h.2.size o⟩
theorem MM.model {w wr w' : World} {v v' : Value} {m m' : List (Int × Int)} (h : MM w wr v m) (hb : Below wr.heap.size wr w') (E : EntB w' wr.heap.size v' m') : MM w w' v' m' :=
  ⟨E.down h.2.size, h.2.trans (hb.mono h.2.size)⟩
theorem MM.to {w wr : World} {v : Value} {m m' : List (Int × Int)} (h : MM w wr v m) (e : m = m') : MM w wr v m' := e ▸ h

set_option maxHeartbeats 4000000 in
set_option maxRecDepth 100000 in
theorem model19_any (cap : Int) (a : Option Addr) (len c2 : Nat) (f0 f1 f2 : Nat → Int) (w : World) (ho : Ops3 .u8 .u8 .i64 w a len f0 f1 f2) (h0 : ∀ k, k < len → (0 ≤ f0 k ∧ f0 k ≤ 255) ∧ (0 ≤ f1 k ∧ f1 k ≤ 255)) (hlen : len ≤ 1024) :
    Calls Ybgv.prog 19 #[.int .i64 cap, .slice a len c2] w fun e w' => ∃ v', e = .returned v' ∧ MM w w' v' (runM (max cap 0) f0 (fun i => f1 i % 8) f2 len) := by
  have HO := hide ho
  have H0 := hide h0
  clear ho h0
  have hcp : 0 ≤ max cap 0 := by omega
  obtain ⟨cp, hcpe⟩ : ∃ cp, max cap 0 = cp := ⟨_, rfl⟩
  rw [hcpe] at hcp ⊢
  have HE := hide hcpe
  clear hcpe
  go_enter Ybgv.func19, Ybgv.ntmps19
  go_upto_if 14 with fail
  go_cut [0] from 13 to 14 (fun v wr => v = .int .i64 cp ∧ wr = w)
  case first =>
    go_wp2
    · go_meet
      case rel => exact ⟨by rw [← HE.out, show max cap 0 = 0 by omega], rfl⟩
    · go_meet
      case rel => exact ⟨by rw [← HE.out, show max cap 0 = cap by omega], rfl⟩
  case rest =>
    obtain ⟨rfl, rfl⟩ := hcut
    go_wp2
    go_loopw [5, 6] (fun v i wr => ∃ (k : Nat), k ≤ len ∧ i = .int .i64 k ∧ MM wc wr v (runM cp f0 (fun i => f1 i % 8) f2 k)) (fun _ i _ => len - (intOf i).toNat)
    case atStart => exact ⟨0, Nat.zero_le _, rfl, EntB.nil _ _, Below.refl _ _⟩
    case round =>
        obtain ⟨k, hk, rfl, T⟩ := hrel
        obtain ⟨hd, tl1, tl2⟩ := runM_ok cp hcp f0 (fun i => f1 i % 8) f2 k
        have HR := hide (runM_succ cp f0 (fun i => f1 i % 8) f2 k)
        generalize hM : runM cp f0 (fun i => f1 i % 8) f2 k = m at *
        have HM := hide hM
        clear hM
        obtain ⟨a', cap', b', rfl, ha', _, _, _⟩ := T.1.form
        have HA := hide ha'
        clear ha'
        by_cases hlt : k < len
        · have hlt' : (k : Int) < (len : Int) := by omega
          obtain ⟨b, off, rfl, hb, g0, g1, g2⟩ := HO.out k hlt
          obtain ⟨⟨z1, z2⟩, z3, z4⟩ := H0.out k hlt
          have g0' := (T.2.cell (p := ⟨b, off + k * 3, none⟩) hb).trans g0
          have g1' := (T.2.cell (p := ⟨b, off + k * 3 + 1, none⟩) hb).trans g1
          have g2' := (T.2.cell (p := ⟨b, off + k * 3 + 2, none⟩) hb).trans g2
          clear g0 g1 g2
          have HT := hide (T.alloc (.cells #[.int .u8 (f0 k), .int .u8 (f1 k), .int .i64 (f2 k)] 46))
          have HC := hide (hasK_cases m (f1 k % 8) hd)
          clear T hd
          by_cases q0 : f0 k % 4 = 0
          · have q0b : (f0 k % 4 == 0) = true := by simp [q0]
            have ER := hide (stepM_put (cp := cp) (k := f1 k % 8) (v := f2 k) (m := m) q0)
            clear q0
            by_cases hc0 : cp = 0
            · have hcb : (cp == 0) = true := by simp [hc0]
              have E2 : Hid (m = mPut cp m (f1 k % 8) (f2 k)) := by unfold Hid; rw [hc0, mPut_zero]
              have HT5 := HT
              clear hc0 HT HC
              go_wp2
              go_roundw
              case rel => exact ⟨k + 1, by omega, by go_num, HT5.out.to (by rw [HR.out, ER.out, ← E2.out])⟩
              case measure => simp [intOf]; omega
            · have hcb : (cp == 0) = false := by simp [hc0]
              go_wp2_with fail
              refine (idx51_any (f1 k % 8) HT.out.1 (by omega)).mono ?_
              rintro e w3 ⟨rfl, rfl⟩
              rcases HC.out with ⟨k1, k2, k3, k4⟩ | ⟨j, e, k1, k2, k3, k4, k5⟩
              · rw [k2]
                clear k2
                by_cases hfull : (m.length : Int) = cp
                · have hfb : ((m.length : Int) == cp) = true := by simp [hfull]
                  have E2 := hide (mPut_full (v := f2 k) hc0 k1 hfull)
                  have hm0 : m ≠ [] := by rintro rfl; simp at hfull; omega
                  have E3 := hide (eI_last m hm0)
                  clear hfull hc0 k1 k3 k4 HC hm0
                  go_wp2_with fail
                  refine (del52_any _ HT.out.1 (by omega)).mono ?_
                  rintro e w4 ⟨v4, rfl, E4, b4⟩
                  have HT2 := hide (HT.out.model b4 E4)
                  obtain ⟨l0, l1, l2⟩ := loc3_below b4
                  clear HT E4 b4
                  go_wp2_with fail
                  refine (front53_any (f1 k % 8) (f2 k) HT2.out.1 (Nat.le_trans (eI_length _ _) (by omega))).mono ?_
                  rintro e w5 ⟨v5, rfl, E5, b5⟩
                  have HT5 := hide (HT2.out.model b5 E5)
                  clear HT2 E5 b5
                  go_wp2
                  go_roundw
                  case rel => exact ⟨k + 1, by omega, by go_num, HT5.out.to (by rw [HR.out, ER.out, E3.out, E2.out])⟩
                  case measure => simp [intOf]; omega
                · have hfb : ((m.length : Int) == cp) = false := by simp [hfull]
                  have E2 := hide (mPut_room (v := f2 k) hc0 k1 hfull)
                  clear hfull hc0 k1 k3 k4 HC
                  go_wp2_with fail
                  refine (front53_any (f1 k % 8) (f2 k) HT.out.1 (by omega)).mono ?_
                  rintro e w5 ⟨v5, rfl, E5, b5⟩
                  have HT5 := hide (HT.out.model b5 E5)
                  clear HT E5 b5
                  go_wp2
                  go_roundw
                  case rel => exact ⟨k + 1, by omega, by go_num, HT5.out.to (by rw [HR.out, ER.out, E2.out])⟩
                  case measure => simp [intOf]; omega
              · have E2 := hide (mPut_hit (v := f2 k) hc0 k1)
                rw [k2]
                have hjlt := (List.getElem?_eq_some_iff.1 k3).1
                have E3 := hide k5
                clear k1 k2 k3 k4 k5 HC hc0
                go_wp2_with fail
                refine (del52_any _ HT.out.1 (by omega)).mono ?_
                rintro e w4 ⟨v4, rfl, E4, b4⟩
                have HT2 := hide (HT.out.model b4 E4)
                obtain ⟨l0, l1, l2⟩ := loc3_below b4
                clear HT E4 b4
                go_wp2_with fail
                refine (front53_any (f1 k % 8) (f2 k) HT2.out.1 (Nat.le_trans (eI_length _ _) (by omega))).mono ?_
                rintro e w5 ⟨v5, rfl, E5, b5⟩
                have HT5 := hide (HT2.out.model b5 E5)
                clear HT2 E5 b5
                go_wp2
                go_roundw
                case rel => exact ⟨k + 1, by omega, by go_num, HT5.out.to (by rw [HR.out, ER.out, E3.out, E2.out])⟩
                case measure => simp [intOf]; omega
          have q0b : (f0 k % 4 == 0) = false := by simp [q0]
          by_cases q1 : f0 k % 4 = 1
          · have q1b : (f0 k % 4 == 1) = true := by simp [q1]
            have ER := hide (stepM_get (cp := cp) (k := f1 k % 8) (v := f2 k) (m := m) q0 q1)
            clear q0 q1
            go_wp2_with fail
            refine (idx51_any (f1 k % 8) HT.out.1 (by omega)).mono ?_
            rintro e w3 ⟨rfl, rfl⟩
            rcases HC.out with ⟨k1, k2, k3, k4⟩ | ⟨j, e, k1, k2, k3, k4, k5⟩
            · rw [k2]
              have E2 := hide (mGet_miss k1)
              have HT5 := HT
              clear k1 k2 k3 k4 HC HT
              go_wp2
              go_roundw
              case rel => exact ⟨k + 1, by omega, by go_num, HT5.out.to (by rw [HR.out, ER.out, E2.out])⟩
              case measure => simp [intOf]; omega
            · rw [k2]
              have E2 := hide (mGet_hit k1)
              have hjlt := (List.getElem?_eq_some_iff.1 k3).1
              have hjlt' : (j : Int) < (m.length : Int) := by omega
              obtain rfl := HA.out (by omega)
              obtain ⟨p1, p2⟩ := HT.out.1.cells k3
              have E3 := hide k5
              subst k4
              clear k1 k2 k3 k5 HC HA
              go_wp2_with fail
              refine (del52_any _ (HT.out.alloc _).1 (by omega)).mono ?_
              rintro e w4 ⟨v4, rfl, E4, b4⟩
              have HT2 := hide ((HT.out.alloc _).model b4 E4)
              have s1 := (b4.cell (p := ⟨wr.heap.size + 1, 0, none⟩) (by simp)).trans (World.cell?_alloc_at _ _ _ _ (by simp))
              have s2 := (b4.cell (p := ⟨wr.heap.size + 1, 1, none⟩) (by simp)).trans (World.cell?_alloc_at _ _ _ _ (by simp))
              simp at s1 s2
              clear HT E4 b4 p1 p2
              go_wp2_with fail
              refine (front53_any (f1 k % 8) (valOf m (f1 k % 8)) HT2.out.1 (Nat.le_trans (eI_length _ _) (by omega))).mono ?_
              rintro e w5 ⟨v5, rfl, E5, b5⟩
              have HT5 := hide (HT2.out.model b5 E5)
              clear HT2 E5 b5 s1 s2
              go_wp2
              go_roundw
              case rel => exact ⟨k + 1, by omega, by go_num, HT5.out.to (by rw [HR.out, ER.out, E3.out, E2.out])⟩
              case measure => simp [intOf]; omega
          have q1b : (f0 k % 4 == 1) = false := by simp [q1]
          by_cases q2 : f0 k % 4 = 2
          · have q2b : (f0 k % 4 == 2) = true := by simp [q2]
            have ER := hide (stepM_rem (cp := cp) (k := f1 k % 8) (v := f2 k) (m := m) q0 q1 q2)
            clear q0 q1 q2
            go_wp2_with fail
            refine (idx51_any (f1 k % 8) HT.out.1 (by omega)).mono ?_
            rintro e w3 ⟨rfl, rfl⟩
            rcases HC.out with ⟨k1, k2, k3, k4⟩ | ⟨j, e, k1, k2, k3, k4, k5⟩
            · rw [k2]
              have E2 := hide k4
              have HT5 := HT
              clear k1 k2 k3 k4 HC HT
              go_wp2
              go_roundw
              case rel => exact ⟨k + 1, by omega, by go_num, HT5.out.to (by rw [HR.out, ER.out, E2.out])⟩
              case measure => simp [intOf]; omega
            · rw [k2]
              have hjlt := (List.getElem?_eq_some_iff.1 k3).1
              have E3 := hide k5
              clear k1 k2 k3 k4 k5 HC
              go_wp2_with fail
              refine (del52_any _ HT.out.1 (by omega)).mono ?_
              rintro e w4 ⟨v4, rfl, E4, b4⟩
              have HT5 := hide (HT.out.model b4 E4)
              clear HT E4 b4
              go_wp2
              go_roundw
              case rel => exact ⟨k + 1, by omega, by go_num, HT5.out.to (by rw [HR.out, ER.out, E3.out])⟩
              case measure => simp [intOf]; omega
          have q2b : (f0 k % 4 == 2) = false := by simp [q2]
          have ER := hide (stepM_ev (cp := cp) (k := f1 k % 8) (v := f2 k) (m := m) q0 q1 q2)
          clear q0 q1 q2 HC
          by_cases hm0 : m = []
          · have E3 : Hid (m = m.dropLast) := by unfold Hid; rw [hm0]; rfl
            have hml' : ¬ ((0 : Int) < (m.length : Int)) := by rw [hm0]; simp
            have HT5 := HT
            clear HT hm0
            go_wp2
            go_roundw
            case rel => exact ⟨k + 1, by omega, by go_num, HT5.out.to (by rw [HR.out, ER.out, ← E3.out])⟩
            case measure => simp [intOf]; omega
          · have hml : 0 < m.length := List.length_pos_iff.2 hm0
            have hml' : (0 : Int) < (m.length : Int) := by omega
            have E3 := hide (eI_last m hm0)
            clear hm0
            go_wp2_with fail
            refine (del52_any _ HT.out.1 (by omega)).mono ?_
            rintro e w4 ⟨v4, rfl, E4, b4⟩
            have HT5 := hide (HT.out.model b4 E4)
            clear HT E4 b4
            go_wp2
            go_roundw
            case rel => exact ⟨k + 1, by omega, by go_num, HT5.out.to (by rw [HR.out, ER.out, E3.out])⟩
            case measure => simp [intOf]; omega
        · have hlt' : ¬ ((k : Int) < (len : Int)) := by omega
          obtain rfl : k = len := by omega
          have HT := hide T
          clear T hd HR
          go_wp2
          go_ret
          exact ⟨_, rfl, by rw [HM.out]; exact HT.out⟩

end Go.Proofs.Ymwhbg
