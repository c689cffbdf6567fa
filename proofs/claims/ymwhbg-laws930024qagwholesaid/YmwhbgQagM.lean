/-
  The law QAG: its model's functions (made by gen_qagm.py).
-/
import Derived.Test.YmwhbgAppAll
namespace Go.Proofs.Ymwhbg
open Go.RowKit
set_option linter.unusedVariables false
set_option linter.unusedSimpArgs false

theorem norm38_any (c : Int) (w : World) : Calls Ybgv.prog 38 #[.int .i64 c] w fun e w' => e = .returned (.int .i64 (max c 0)) ∧ w' = w := by
  by_cases h : c < 0
  · rw [show max c 0 = 0 by omega]
    go_enter Ybgv.func38, Ybgv.ntmps38
    go_wp2
    go_ret
    exact ⟨rfl, rfl⟩
  · rw [show max c 0 = c by omega]
    go_enter Ybgv.func38, Ybgv.ntmps38
    go_wp2
    go_ret
    exact ⟨rfl, rfl⟩

set_option maxHeartbeats 1000000 in
theorem put54_any {w : World} {base : Nat} {v : Value} {m : List (Int × Int)} (cp k x : Int) (E : EntB w base v m) (hb : base ≤ w.heap.size) (d : distinct m) (hl : (m.length : Int) ≤ cp) (hm : m.length ≤ 50000) :
    Calls Ybgv.prog 54 #[v, .int .i64 cp, .int .i64 k, .int .i64 x] w fun e w' => ∃ v', e = .returned v' ∧ Res w base v w' v' (mPut cp m k x) := by
  obtain ⟨a, cap, b, rfl, ha, han, _, _⟩ := E.form
  obtain ⟨i0, hi, hz0, hz1, hz2⟩ := info_parts Ybgv.info29
  have HE := hide E
  have HN := hide han
  clear ha han
  by_cases hc0 : cp = 0
  · subst hc0
    rw [mPut_zero]
    clear d hl E hi hz0 hz1 hz2
    go_enter Ybgv.func54, Ybgv.ntmps54
    go_wp2
    go_ret
    exact ⟨_, rfl, Res.same HE.out⟩
  · have hcb : (cp == 0) = false := by simp [hc0]
    rcases hasK_cases m k d with ⟨k1, k2, k3, k4⟩ | ⟨j, e, k1, k2, k3, k4, k5⟩
    · have K2 := hide k2
      by_cases hfull : (m.length : Int) = cp
      · rw [mPut_full hc0 k1 hfull]
        have hm0 : m ≠ [] := by rintro rfl; simp at hfull; omega
        have E3 := hide (eI_last m hm0)
        have hfb : ((m.length : Int) == cp) = true := by simp [hfull]
        have hml : 0 < m.length := List.length_pos_iff.2 hm0
        have hl2 : m.dropLast.length ≤ 50000 := by simp; omega
        clear hc0 k1 k2 k3 k4 hm0 d E hl hfull
        generalize m.dropLast = M at *
        go_enter Ybgv.func54, Ybgv.ntmps54
        go_wp2_with fail
        refine (idx56_any k HE.out (by omega)).mono ?_
        rintro e w ⟨rfl, rfl⟩
        rw [K2.out]
        go_wp2_with fail
        refine (del57_any _ HE.out (by omega)).mono ?_
        rintro e w4 ⟨v4, rfl, E4, b4⟩
        rw [E3.out] at E4
        obtain ⟨a4, cap4, r4, rfl, _, hn4, _, _⟩ := E4.form
        have HF := hide E4
        have HB := hide b4
        have hs4 := b4.size
        have HN4 := hide hn4
        clear E4 b4 hn4
        go_wp2_with (at_builtin; refine wpList_append_all _ rfl (.tmp 33) (.tmp 34) 25 rfl w.heap.size 29 i0 (.agg #[.int .i64 0, .int .i64 0]) 2 16 Ybgv.underlying25 hi hz0 hz1 hz2 rfl (by decide) (.slice (some ⟨w4.heap.size, 0, none⟩) 1 1) 1 [.int .i64 k, .int .i64 x] rfl (World.ownsRow_lit w4 #[.int .i64 k, .int .i64 x] 1 hs4 (by unfold maxLen; omega) rfl) a4 (M).length cap4 (flatE (M)) rfl (flatE_length _) HN4.out (HF.out.src ((Below.refl _ _).alloc (Nat.le_refl _) _)) (fun u hu => flatE_one u _ hu) (by unfold maxLen; omega) (by omega) (by first | (simp; done) | (simp; omega)) ?_)
        intro v5 w5 h5 g5
        have HF5 := hide (EntB.of (m := (k, x) :: M) h5 (by simp; omega) rfl)
        have HB5 := hide (Below.grown (HB.out.alloc hs4 _) g5 (by first | (simp; done) | (simp; omega)) (by intro q hq; simp [Value.ownBlock] at hq; omega))
        clear h5 g5
        go_wp2
        go_ret
        exact ⟨_, rfl, Res.fresh hb HF5.out HB5.out⟩
      · rw [mPut_room hc0 k1 hfull]
        have hfb : ((m.length : Int) == cp) = false := by simp [hfull]
        clear hc0 k1 k2 k3 k4 d E hl hfull
        go_enter Ybgv.func54, Ybgv.ntmps54
        go_wp2_with fail
        refine (idx56_any k HE.out (by omega)).mono ?_
        rintro e w ⟨rfl, rfl⟩
        rw [K2.out]
        have HF := HE
        have HB := hide (Below.refl w.heap.size w)
        have hs4 := Nat.le_refl w.heap.size
        have HN4 := HN
        go_wp2_with (at_builtin; refine wpList_append_all _ rfl (.tmp 33) (.tmp 34) 25 rfl w.heap.size 29 i0 (.agg #[.int .i64 0, .int .i64 0]) 2 16 Ybgv.underlying25 hi hz0 hz1 hz2 rfl (by decide) (.slice (some ⟨w.heap.size, 0, none⟩) 1 1) 1 [.int .i64 k, .int .i64 x] rfl (World.ownsRow_lit w #[.int .i64 k, .int .i64 x] 1 hs4 (by unfold maxLen; omega) rfl) a (m).length cap (flatE (m)) rfl (flatE_length _) HN4.out (HF.out.src ((Below.refl _ _).alloc (Nat.le_refl _) _)) (fun u hu => flatE_one u _ hu) (by unfold maxLen; omega) (by omega) (by first | (simp; done) | (simp; omega)) ?_)
        intro v5 w5 h5 g5
        have HF5 := hide (EntB.of (m := (k, x) :: m) h5 (by simp; omega) rfl)
        have HB5 := hide (Below.grown (HB.out.alloc hs4 _) g5 (by first | (simp; done) | (simp; omega)) (by intro q hq; simp [Value.ownBlock] at hq; omega))
        clear h5 g5
        go_wp2
        go_ret
        exact ⟨_, rfl, Res.fresh hb HF5.out HB5.out⟩
    · rw [mPut_hit hc0 k1]
      have K2 := hide k2
      have K5 := hide k5
      have hjlt := (List.getElem?_eq_some_iff.1 k3).1
      have hdl : (del m k).length + 1 = m.length := by
        rw [← k5, eI_nat, List.length_eraseIdx]
        rw [if_pos hjlt]
        omega
      have hfb : (((del m k).length : Int) == cp) = false := by
        rw [beq_eq_false_iff_ne]; omega
      have hl2 : (del m k).length ≤ 50000 := by omega
      clear hc0 k1 k2 k3 k4 k5 d E hl hdl
      generalize del m k = M at *
      go_enter Ybgv.func54, Ybgv.ntmps54
      go_wp2_with fail
      refine (idx56_any k HE.out (by omega)).mono ?_
      rintro e w ⟨rfl, rfl⟩
      rw [K2.out]
      go_wp2_with fail
      refine (del57_any j HE.out (by omega)).mono ?_
      rintro e w4 ⟨v4, rfl, E4, b4⟩
      rw [K5.out] at E4
      obtain ⟨a4, cap4, r4, rfl, _, hn4, _, _⟩ := E4.form
      have HF := hide E4
      have HB := hide b4
      have hs4 := b4.size
      have HN4 := hide hn4
      clear E4 b4 hn4
      go_wp2_with (at_builtin; refine wpList_append_all _ rfl (.tmp 33) (.tmp 34) 25 rfl w.heap.size 29 i0 (.agg #[.int .i64 0, .int .i64 0]) 2 16 Ybgv.underlying25 hi hz0 hz1 hz2 rfl (by decide) (.slice (some ⟨w4.heap.size, 0, none⟩) 1 1) 1 [.int .i64 k, .int .i64 x] rfl (World.ownsRow_lit w4 #[.int .i64 k, .int .i64 x] 1 hs4 (by unfold maxLen; omega) rfl) a4 (M).length cap4 (flatE (M)) rfl (flatE_length _) HN4.out (HF.out.src ((Below.refl _ _).alloc (Nat.le_refl _) _)) (fun u hu => flatE_one u _ hu) (by unfold maxLen; omega) (by omega) (by first | (simp; done) | (simp; omega)) ?_)
      intro v5 w5 h5 g5
      have HF5 := hide (EntB.of (m := (k, x) :: M) h5 (by simp; omega) rfl)
      have HB5 := hide (Below.grown (HB.out.alloc hs4 _) g5 (by first | (simp; done) | (simp; omega)) (by intro q hq; simp [Value.ownBlock] at hq; omega))
      clear h5 g5
      go_wp2
      go_ret
      exact ⟨_, rfl, Res.fresh hb HF5.out HB5.out⟩

set_option maxHeartbeats 1000000 in
theorem get55_any {w : World} {base : Nat} {v : Value} {m : List (Int × Int)} (k : Int) (E : EntB w base v m) (hb : base ≤ w.heap.size) (d : distinct m) (hm : m.length ≤ 50000) :
    Calls Ybgv.prog 55 #[v, .int .i64 k] w fun e w' => ∃ v', e = .returned v' ∧ Res w base v w' v' (mGet m k) := by
  obtain ⟨a, cap, b, rfl, ha, _, _, _⟩ := E.form
  obtain ⟨i0, hi, hz0, hz1, hz2⟩ := info_parts Ybgv.info29
  have HE := hide E
  have HA := hide ha
  clear ha
  rcases hasK_cases m k d with ⟨k1, k2, k3, k4⟩ | ⟨j, e, k1, k2, k3, k4, k5⟩
  · have K2 := hide k2
    rw [mGet_miss k1]
    clear k1 k2 k3 k4 d E hi hz0 hz1 hz2
    go_enter Ybgv.func55, Ybgv.ntmps55
    go_wp2_with fail
    refine (idx56_any k HE.out (by omega)).mono ?_
    rintro e w ⟨rfl, rfl⟩
    rw [K2.out]
    go_wp2
    go_ret
    exact ⟨_, rfl, Res.same HE.out⟩
  · rw [mGet_hit k1]
    have K2 := hide k2
    have K5 := hide k5
    subst k4
    have hjlt := (List.getElem?_eq_some_iff.1 k3).1
    obtain rfl := HA.out (by omega)
    obtain ⟨p1, p2⟩ := E.cells k3
    have hbl := (E.lt b rfl).2
    have hdl : (del m k).length ≤ 50000 := Nat.le_trans (List.length_filter_le _ _) (by omega)
    clear k1 k2 k3 k5 d E
    generalize valOf m k = x at *
    generalize del m k = M at *
    go_enter Ybgv.func55, Ybgv.ntmps55
    go_wp2_with fail
    refine (idx56_any k HE.out (by omega)).mono ?_
    rintro e w ⟨rfl, rfl⟩
    rw [K2.out]
    go_wp2_with fail
    have HE1 := hide ((HE.out.alloc (.cells #[.int .i64 k, .int .i64 x] 29)).drew)
    have HE2 := hide (((HE.out.alloc (.cells #[.int .i64 k, .int .i64 x] 29)).alloc (.cells #[.int .i64 k, .int .i64 x] 29)).drew)
    clear p1 p2
    go_region_held3 (fun w' => w'.cell? ⟨w.heap.size, 0, none⟩ = some (.int .i64 k) ∧ w'.cell? ⟨w.heap.size, 1, none⟩ = some (.int .i64 x)) (go_keep)
      (first
        | (go_at_call 57; refine (del57_any (base := base) (m := m) (j : Int) ?_ ?_).mono ?_; exact HE2.out; omega; rintro e w4 ⟨v4, rfl, E4, b4⟩; rw [K5.out] at E4; obtain ⟨a4, cap4, r4, rfl, _, hn4, _, _⟩ := E4.form; have HN4 := hide hn4; have q0 := b4.cell (p := ⟨w.heap.size, 0, none⟩) (by simp; omega); have q1 := b4.cell (p := ⟨w.heap.size, 1, none⟩) (by simp; omega); simp at q0 q1; have hs4 : w.heap.size + 1 ≤ w4.heap.size := by have := b4.size; simp at this; omega
           have HB := hide (((((Below.refl w.heap.size w).alloc (Nat.le_refl _) _).alloc (by simp) _).drew).trans (b4.mono (by simp; omega)))
           have OW := hide (ownsRow_heap (w' := w4) (World.ownsRow_lit (base := w.heap.size) (e := 29) (size := 2) (w.alloc (.cells #[.int .i64 k, .int .i64 x] 29)) #[.int .i64 k, .int .i64 x] 1 (by simp) (by unfold maxLen; omega) rfl) (fun q hq => by simp [Value.ownBlock] at hq; subst hq; exact b4.block _ (by simp)))
           have SR := hide (E4.src (Below.refl _ w4))
           clear E4 b4 hn4)
        | (go_at_call 57; refine (del57_any (base := base) (m := m) (j : Int) ?_ ?_).mono ?_; exact HE1.out; omega; rintro e w4 ⟨v4, rfl, E4, b4⟩; rw [K5.out] at E4; obtain ⟨a4, cap4, r4, rfl, _, hn4, _, _⟩ := E4.form; have HN4 := hide hn4; have q0 := b4.cell (p := ⟨w.heap.size, 0, none⟩) (by simp); have q1 := b4.cell (p := ⟨w.heap.size, 1, none⟩) (by simp); simp at q0 q1; have hs4 : w.heap.size + 1 ≤ w4.heap.size := by have := b4.size; simp at this; omega
           have HB := hide ((((Below.refl w.heap.size w).alloc (Nat.le_refl _) _).drew).trans (b4.mono (by simp)))
           have SR := hide (E4.src ((Below.refl _ w4).alloc (Nat.le_refl _) (.cells #[.int .i64 k, .int .i64 x] 29)))
           clear E4 b4 hn4)
        | (refine step_append_all rfl (.tmp 18) (.tmp 21) 25 rfl w.heap.size 29 i0 (.agg #[.int .i64 0, .int .i64 0]) 2 16 Ybgv.underlying25 hi hz0 hz1 hz2 rfl (Nat.succ_pos 1) (.slice (some ⟨(w.alloc (.cells #[.int .i64 k, .int .i64 x] 29)).heap.size, 0, none⟩) 1 1) 1 [.int .i64 k, .int .i64 x] ?_ OW.out a4 M.length cap4 (flatE M) ?_ (flatE_length _) HN4.out SR.out (fun u hu => flatE_one u _ hu) ?_ ?_ ?_ ?_; (simp [Act.eval, Act.put]); (simp [Act.eval, Act.put]); (unfold maxLen; omega); omega; omega; intro v5 w5 h5 g5
           have HF5 := hide (EntB.of (m := (k, x) :: M) h5 (by simp; omega) rfl)
           have HB5 := hide (Below.grown HB.out g5 (by omega) (by intro q hq; simp [Value.ownBlock] at hq; omega))
           have b5 := Below.grown (Below.refl (w.heap.size + 1) w4) g5 hs4 (by intro q hq; simp [Value.ownBlock] at hq; omega)
           have q0' := (b5.cell (p := ⟨w.heap.size, 0, none⟩) (by simp)).trans q0
           have q1' := (b5.cell (p := ⟨w.heap.size, 1, none⟩) (by simp)).trans q1
           clear h5 g5 b5)
        | (refine step_append_all rfl (.tmp 18) (.tmp 21) 25 rfl w.heap.size 29 i0 (.agg #[.int .i64 0, .int .i64 0]) 2 16 Ybgv.underlying25 hi hz0 hz1 hz2 rfl (Nat.succ_pos 1) (.slice (some ⟨w4.heap.size, 0, none⟩) 1 1) 1 [.int .i64 k, .int .i64 x] ?_ (World.ownsRow_lit w4 #[.int .i64 k, .int .i64 x] 1 (Nat.le_trans (Nat.le_succ _) hs4) ?_ rfl) a4 M.length cap4 (flatE M) ?_ (flatE_length _) HN4.out SR.out (fun u hu => flatE_one u _ hu) ?_ ?_ ?_ ?_; (simp [Act.eval, Act.put]); (unfold maxLen; omega); (simp [Act.eval, Act.put]); (unfold maxLen; omega); omega; (simp; omega); intro v5 w5 h5 g5
           have HF5 := hide (EntB.of (m := (k, x) :: M) h5 (by simp; omega) rfl)
           have HB5 := hide (Below.grown (HB.out.alloc (by omega) _) g5 (by simp; omega) (by intro q hq; simp [Value.ownBlock] at hq; omega))
           have b5 := Below.grown ((Below.refl (w.heap.size + 1) w4).alloc hs4 _) g5 (by simp; omega) (by intro q hq; simp [Value.ownBlock] at hq; omega)
           have q0' := (b5.cell (p := ⟨w.heap.size, 0, none⟩) (by simp)).trans q0
           have q1' := (b5.cell (p := ⟨w.heap.size, 1, none⟩) (by simp)).trans q1
           clear h5 g5 b5))
    all_goals
      clear q0 q1
      go_wp2
      go_ret
      exact ⟨_, rfl, Res.fresh hb HF5.out HB5.out⟩


end Go.Proofs.Ymwhbg
