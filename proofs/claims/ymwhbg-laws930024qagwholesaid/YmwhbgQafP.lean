/-
  The law QAF: its model's Put.
-/
import Derived.Test.YmwhbgRes
import Derived.Deep.QuietTactic
import Derived.BigQuiet
namespace Go.Proofs.Ymwhbg
open Go.RowKit
set_option linter.unusedVariables false
set_option linter.unusedSimpArgs false

theorem hasK_take_hit {m : List (Int × Int)} {k : Int} {i : Nat} {e : Int × Int} (he : m[i]? = some e) (hk : e.1 = k) : hasK (m.take (i + 1)) k = true := by
  rw [take_step m i e he]; simp [hasK, hk]
theorem hasK_take_miss {m : List (Int × Int)} {k : Int} {i : Nat} {e : Int × Int} (he : m[i]? = some e) (hk : e.1 ≠ k) : hasK (m.take (i + 1)) k = hasK (m.take i) k := by
  rw [take_step m i e he]; unfold hasK; rw [List.any_append]; simp [hk]
theorem del_take_hit {m : List (Int × Int)} {k : Int} {i : Nat} {e : Int × Int} (he : m[i]? = some e) (hk : e.1 = k) : del (m.take (i + 1)) k = del (m.take i) k := by
  rw [take_step m i e he]; unfold del; rw [List.filter_append]; simp [hk]
theorem del_take_miss {m : List (Int × Int)} {k : Int} {i : Nat} {e : Int × Int} (he : m[i]? = some e) (hk : e.1 ≠ k) : del (m.take (i + 1)) k = del (m.take i) k ++ [e] := by
  rw [take_step m i e he]; unfold del; rw [List.filter_append]; simp [hk]

set_option maxHeartbeats 1000000 in
theorem put25_any {w : World} {base : Nat} {v : Value} {m : List (Int × Int)} (c : Nat) (k x : Int) (E : EntB w base v m) (hb : base ≤ w.heap.size) (d : distinct m) (hl : m.length ≤ c) (hm : m.length ≤ 50000) (hc : c ≤ 50000) :
    Calls Ybgv.prog 25 #[v, .int .i64 c, .int .i64 k, .int .i64 x] w fun e w' => ∃ v', e = .returned v' ∧ Res w base v w' v' (mPut c m k x) := by
  obtain ⟨a, cap, b, rfl, ha, _, _, _⟩ := E.form
  have HE := hide E
  by_cases hc0 : c = 0
  · subst hc0
    rw [show ((0 : Nat) : Int) = 0 from rfl, mPut_zero]
    clear d hl E
    go_enter Ybgv.func25, Ybgv.ntmps25
    go_wp2
    go_ret
    exact ⟨_, rfl, Res.same HE.out⟩
  · have hci : (c : Int) ≠ 0 := by omega
    have hcb : ((c : Int) == 0) = false := beq_eq_false_iff_ne.2 hci
    have HP := hide (hasK_cases m k d)
    have HA := hide ha
    have hbl : 0 < m.length → b < w.heap.size := fun hp => by obtain rfl := ha hp; exact (E.lt b rfl).2
    have HBL := hide hbl
    obtain ⟨i0, hi, hz0, hz1, hz2⟩ := info_parts Ybgv.info29
    clear d E ha hbl
    go_enter Ybgv.func25, Ybgv.ntmps25
    go_wp2_with (at_make; refine wpList_make_own _ rfl _ _ 25 rfl w.heap.size 29 i0 (.agg #[.int .i64 0, .int .i64 0]) 2 Ybgv.underlying25 hi hz0 hz1 _ _ _ (m.length + 1) rfl rfl (by omega) (by rw [hz2]; omega) (by unfold maxLen; omega) (Nat.le_refl _) ?_)
    intro w0 hown0 hgrow0
    have B0 := (Below.refl w.heap.size w).grown hgrow0 (Nat.le_refl _) (by simp)
    have hsz0 : w.heap.size ≤ w0.heap.size := hgrow0.size
    clear hgrow0
    go_wp2_with (at_builtin; refine wpList_append_own _ rfl _ _ 25 rfl w.heap.size 29 i0 (.agg #[.int .i64 0, .int .i64 0]) 2 16 Ybgv.underlying25 hi hz0 hz1 hz2 rfl (by decide) _ _ _ rfl (World.ownsRow.alloc hown0 _) ⟨w0.heap.size, 0, none⟩ 1 1 [.int .i64 k, .int .i64 x] rfl rfl (cells_two _ _ _ _) (ones_two _ _) (by unfold maxLen; omega) (by omega) (by simp; omega) ?_)
    intro v0 w1 hown1 hgrow1 _
    have E1 : EntB w1 w.heap.size v0 [(k, x)] := hown1
    have B1 : Below w.heap.size w w1 := (B0.alloc (by omega) _).grown hgrow1 (by first | omega | (simp; omega)) (fun q hq => (World.ownsRow.lt hown0 q hq).1)
    clear hown0 hown1 hgrow1 B0
    go_wp2
    go_loopw [9, 10, 11] (fun o fd i wr => ∃ q : Nat, q ≤ m.length ∧ i = .int .i64 q ∧ fd = .bool (hasK (m.take q) k) ∧ EntB wr w.heap.size o ((k, x) :: del (m.take q) k) ∧ Below w.heap.size w wr) (fun _ _ i _ => m.length - (intOf i).toNat)
    case atStart => exact ⟨0, Nat.zero_le _, rfl, rfl, E1, B1⟩
    case round =>
      clear E1 B1
      obtain ⟨q, hq, rfl, rfl, hown, hbw⟩ := hrel
      by_cases hlt : q < m.length
      · have hlt' : (q : Int) < (m.length : Int) := by omega
        obtain rfl := HA.out (by omega)
        have hbw2 := HBL.out (by omega)
        obtain ⟨e, he⟩ : ∃ e, m[q]? = some e := ⟨m[q], by simp [hlt]⟩
        obtain ⟨g1, g2⟩ := HE.out.cells he
        have g1' : wr.cell? ⟨b, q * 2, none⟩ = some (.int .i64 e.1) := (hbw.cell (p := ⟨b, q * 2, none⟩) hbw2).trans g1
        have g2' : wr.cell? ⟨b, q * 2 + 1, none⟩ = some (.int .i64 e.2) := (hbw.cell (p := ⟨b, q * 2 + 1, none⟩) hbw2).trans g2
        clear g1 g2
        have hws := hbw.size
        by_cases hk : e.1 = k
        · have hkb : (e.1 == k) = true := by simp [hk]
          have H1 := hide (hasK_take_hit he hk)
          have H2 := hide (del_take_hit he hk)
          have HO := hide hown
          have HB := hide hbw
          clear hk he hown hbw
          go_wp2
          go_roundw
          case rel => exact ⟨q + 1, by omega, by go_num, by rw [H1.out], by rw [H2.out]; exact HO.out, HB.out⟩
          case measure => simp [intOf]; omega
        · have hkb : (e.1 == k) = false := by simp [hk]
          have H1 := hide (hasK_take_miss he hk)
          have H2 := hide (del_take_miss he hk)
          have hle : (del (m.take q) k).length ≤ m.length := Nat.le_trans (List.length_filter_le _ _) (by simp; omega)
          clear hk he
          go_wp2_with (at_builtin; refine wpList_append_own _ rfl _ _ 25 rfl w.heap.size 29 i0 (.agg #[.int .i64 0, .int .i64 0]) 2 16 Ybgv.underlying25 hi hz0 hz1 hz2 rfl (by decide) _ _ _ rfl (World.ownsRow.alloc hown _) ⟨wr.heap.size, 0, none⟩ 1 1 [.int .i64 e.1, .int .i64 e.2] rfl rfl (cells_two _ _ _ _) (ones_two _ _) (by rw [List.length_cons]; unfold maxLen; omega) (by rw [List.length_cons]; omega) (by simp; omega) ?_)
          intro v' w2 hown' hgrow _
          have R1 : EntB w2 w.heap.size v' ((k, x) :: del (m.take (q + 1)) k) := by
            rw [H2.out]
            exact EntB.snoc (m := (k, x) :: del (m.take q) k) hown' (by first | omega | (simp; omega) | (simp; done))
          have R2 : Below w.heap.size w w2 := (hbw.alloc (by omega) _).grown hgrow (by first | omega | (simp; omega)) (fun q hq => (World.ownsRow.lt hown q hq).1)
          clear hown' hgrow hown hbw g1' g2'
          go_wp2
          go_roundw
          case rel => exact ⟨q + 1, by omega, by go_num, by rw [H1.out], R1, R2⟩
          case measure => simp [intOf]; omega
      · have hlt' : ¬ ((q : Int) < (m.length : Int)) := by omega
        have hke : m.take q = m := List.take_of_length_le (by omega)
        rw [hke] at hown ⊢
        clear hke
        obtain ⟨a9, cap9, b9, rfl, ha9, _, _, hcap9⟩ := hown.form
        obtain rfl := ha9 (by simp)
        rcases HP.out with ⟨k1, k2, k3, k4⟩ | ⟨j, e, k1, k2, k3, k4, k5⟩
        · rw [k1]
          rw [k4] at hown hcap9 ⊢
          by_cases hfull : m.length = c
          · have E2 := hide (mPut_full (cp := (c : Int)) (v := x) hci k1 (by omega))
            have HO := hide hown
            have HB := hide hbw
            have hlc : (c : Int) < (m.length : Int) + 1 := by omega
            have hcc : c ≤ cap9 := by simp at hcap9; omega
            clear k1 k2 k3 k4 hown hbw HP
            go_wp2
            go_ret
            have HT := HO.out.take c (by rw [List.length_cons]; omega)
            have e1 : List.take c ((k, x) :: m) = (k, x) :: m.dropLast := by
              rw [List.dropLast_eq_take, hfull]
              cases c with
              | zero => omega
              | succ c => rfl
            rw [e1, ← E2.out] at HT
            exact ⟨_, rfl, Res.fresh hb HT HB.out⟩
          · have E2 := hide (mPut_room (cp := (c : Int)) (v := x) hci k1 (by omega))
            have HO := hide hown
            have HB := hide hbw
            have hlc : ¬ ((c : Int) < (m.length : Int) + 1) := by omega
            clear k1 k2 k3 k4 hown hbw HP hfull
            go_wp2
            go_ret
            exact ⟨_, rfl, by rw [E2.out]; exact Res.fresh hb HO.out HB.out⟩
        · rw [k1]
          have E2 := hide (mPut_hit (cp := (c : Int)) (v := x) hci k1)
          have HO := hide hown
          have HB := hide hbw
          clear k1 k2 k3 k4 hown hbw HP k5
          go_wp2
          go_ret
          exact ⟨_, rfl, by rw [E2.out]; exact Res.fresh hb HO.out HB.out⟩

end Go.Proofs.Ymwhbg
