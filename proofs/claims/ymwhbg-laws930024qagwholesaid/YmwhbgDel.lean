/-
  The models' functions that leave an entry out (one text, six functions of one shape).
-/
import Derived.Test.YmwhbgIdx
import Derived.Test.YmwhbgInfo
namespace Go.Proofs.Ymwhbg
open Go.RowKit
set_option linter.unusedVariables false
set_option linter.unusedSimpArgs false

set_option maxHeartbeats 400000 in
theorem del13_any {w : World} {base : Nat} {v : Value} {m : List (Int × Int)} (j : Int) (h : EntB w base v m) (hm : m.length ≤ 100000) :
    Calls Ybgv.prog 13 #[v, .int .i64 j] w fun e w' => ∃ v', e = .returned v' ∧ EntB w' w.heap.size v' (eI m j) ∧ Below w.heap.size w w' := by
  obtain ⟨a, cap, b, rfl, ha, _, _, _⟩ := h.form
  obtain ⟨i0, hi, hz0, hz1, hz2⟩ := info_parts Ybgv.info29
  have hbl : 0 < m.length → b < w.heap.size := fun hp => by obtain rfl := ha hp; exact (h.lt b rfl).2
  have H := hide h
  clear h
  go_enter Ybgv.func13, Ybgv.ntmps13
  go_wp2_with (at_make; refine wpList_make_own _ rfl _ _ 25 rfl w.heap.size 29 i0 (.agg #[.int .i64 0, .int .i64 0]) 2 Ybgv.underlying25 hi hz0 hz1 _ _ _ m.length rfl rfl (by omega) ?b1 ?b2 ?b3 ?_)
  case b1 => rw [hz2]; omega
  case b2 => unfold maxLen; omega
  case b3 => exact Nat.le_refl _
  intro w0 hown0 hgrow0
  have E0 : EntB w0 w.heap.size (.slice (some ⟨w.heap.size, 0, none⟩) 0 m.length) [] := hown0
  have B0 := (Below.refl w.heap.size w).grown hgrow0 (Nat.le_refl _) (by simp)
  clear hown0 hgrow0
  go_wp2
  go_loopw [5, 6] (fun o i wr => ∃ k : Nat, k ≤ m.length ∧ i = .int .i64 k ∧ EntB wr w.heap.size o (eI (m.take k) j) ∧ Below w.heap.size w wr) (fun _ i _ => m.length - (intOf i).toNat)
  case atStart => exact ⟨0, Nat.zero_le _, rfl, by rw [List.take_zero]; unfold eI; split <;> exact E0, B0⟩
  case round =>
    clear E0 B0
    obtain ⟨k, hk, rfl, hown, hb⟩ := hrel
    by_cases hlt : k < m.length
    · have hlt' : (k : Int) < (m.length : Int) := by omega
      obtain rfl := ha (by omega)
      have hbw := hbl (by omega)
      obtain ⟨e, he⟩ : ∃ e, m[k]? = some e := ⟨m[k], by simp [hlt]⟩
      obtain ⟨g1, g2⟩ := H.out.cells he
      have g1' : wr.cell? ⟨b, k * 2, none⟩ = some (.int .i64 e.1) := (hb.cell (p := ⟨b, k * 2, none⟩) hbw).trans g1
      have g2' : wr.cell? ⟨b, k * 2 + 1, none⟩ = some (.int .i64 e.2) := (hb.cell (p := ⟨b, k * 2 + 1, none⟩) hbw).trans g2
      clear g1 g2
      have hws := hb.size
      by_cases hj : (k : Int) = j
      · have hjb : ((k : Int) != j) = false := by simp [hj]
        have HJ := hide hj
        have HE := hide he
        clear hj he
        go_wp2
        go_roundw
        case rel => exact ⟨k + 1, by omega, by go_num, by have e1 := eI_hit m k; rw [← HJ.out] at hown ⊢; rw [e1]; exact hown, hb⟩
        case measure => simp [intOf]; omega
      · have hjb : ((k : Int) != j) = true := by simp [hj]
        have hle : (eI (m.take k) j).length ≤ m.length := Nat.le_trans (eI_length _ _) (by simp; omega)
        have HS : Hid (eI (m.take (k + 1)) j = eI (m.take k) j ++ [e]) := eI_miss m k j hj e he
        clear hj he
        go_wp2_with (at_builtin; refine wpList_append_own _ rfl _ _ 25 rfl w.heap.size 29 i0 (.agg #[.int .i64 0, .int .i64 0]) 2 16 Ybgv.underlying25 hi hz0 hz1 hz2 rfl (by decide) _ _ _ rfl (World.ownsRow.alloc hown _) ⟨wr.heap.size, 0, none⟩ 1 1 [.int .i64 e.1, .int .i64 e.2] rfl rfl (cells_two _ _ _ _) (ones_two _ _) ?c3 ?c4 ?c5 ?_)
        case c3 => unfold maxLen; omega
        case c4 => omega
        case c5 => first | omega | (simp; omega)
        intro v' w1 hown' hgrow _
        have R1 : EntB w1 w.heap.size v' (eI (m.take (k + 1)) j) := by
          rw [HS.out]
          exact EntB.snoc hown' (by first | omega | (simp; omega) | (simp; done))
        have R2 : Below w.heap.size w w1 := (hb.alloc (by omega) _).grown hgrow (by first | omega | (simp; omega)) (fun q hq => (World.ownsRow.lt hown q hq).1)
        clear hown' hgrow hown hb g1' g2'
        go_wp2
        go_roundw
        case rel => exact ⟨k + 1, by omega, by go_num, R1, R2⟩
        case measure => simp [intOf]; omega
    · have hlt' : ¬ ((k : Int) < (m.length : Int)) := by omega
      have hke : m.take k = m := List.take_of_length_le (by omega)
      rw [hke] at hown
      clear hke
      have R1 := hide hown
      have R2 := hide hb
      clear hown hb
      go_wp2
      go_ret
      exact ⟨_, rfl, R1.out, R2.out⟩

set_option maxHeartbeats 400000 in
theorem del23_any {w : World} {base : Nat} {v : Value} {m : List (Int × Int)} (j : Int) (h : EntB w base v m) (hm : m.length ≤ 100000) :
    Calls Ybgv.prog 23 #[v, .int .i64 j] w fun e w' => ∃ v', e = .returned v' ∧ EntB w' w.heap.size v' (eI m j) ∧ Below w.heap.size w w' := by
  obtain ⟨a, cap, b, rfl, ha, _, _, _⟩ := h.form
  obtain ⟨i0, hi, hz0, hz1, hz2⟩ := info_parts Ybgv.info29
  have hbl : 0 < m.length → b < w.heap.size := fun hp => by obtain rfl := ha hp; exact (h.lt b rfl).2
  have H := hide h
  clear h
  go_enter Ybgv.func23, Ybgv.ntmps23
  go_wp2_with (at_make; refine wpList_make_own _ rfl _ _ 25 rfl w.heap.size 29 i0 (.agg #[.int .i64 0, .int .i64 0]) 2 Ybgv.underlying25 hi hz0 hz1 _ _ _ m.length rfl rfl (by omega) ?b1 ?b2 ?b3 ?_)
  case b1 => rw [hz2]; omega
  case b2 => unfold maxLen; omega
  case b3 => exact Nat.le_refl _
  intro w0 hown0 hgrow0
  have E0 : EntB w0 w.heap.size (.slice (some ⟨w.heap.size, 0, none⟩) 0 m.length) [] := hown0
  have B0 := (Below.refl w.heap.size w).grown hgrow0 (Nat.le_refl _) (by simp)
  clear hown0 hgrow0
  go_wp2
  go_loopw [5, 6] (fun o i wr => ∃ k : Nat, k ≤ m.length ∧ i = .int .i64 k ∧ EntB wr w.heap.size o (eI (m.take k) j) ∧ Below w.heap.size w wr) (fun _ i _ => m.length - (intOf i).toNat)
  case atStart => exact ⟨0, Nat.zero_le _, rfl, by rw [List.take_zero]; unfold eI; split <;> exact E0, B0⟩
  case round =>
    clear E0 B0
    obtain ⟨k, hk, rfl, hown, hb⟩ := hrel
    by_cases hlt : k < m.length
    · have hlt' : (k : Int) < (m.length : Int) := by omega
      obtain rfl := ha (by omega)
      have hbw := hbl (by omega)
      obtain ⟨e, he⟩ : ∃ e, m[k]? = some e := ⟨m[k], by simp [hlt]⟩
      obtain ⟨g1, g2⟩ := H.out.cells he
      have g1' : wr.cell? ⟨b, k * 2, none⟩ = some (.int .i64 e.1) := (hb.cell (p := ⟨b, k * 2, none⟩) hbw).trans g1
      have g2' : wr.cell? ⟨b, k * 2 + 1, none⟩ = some (.int .i64 e.2) := (hb.cell (p := ⟨b, k * 2 + 1, none⟩) hbw).trans g2
      clear g1 g2
      have hws := hb.size
      by_cases hj : (k : Int) = j
      · have hjb : ((k : Int) != j) = false := by simp [hj]
        have HJ := hide hj
        have HE := hide he
        clear hj he
        go_wp2
        go_roundw
        case rel => exact ⟨k + 1, by omega, by go_num, by have e1 := eI_hit m k; rw [← HJ.out] at hown ⊢; rw [e1]; exact hown, hb⟩
        case measure => simp [intOf]; omega
      · have hjb : ((k : Int) != j) = true := by simp [hj]
        have hle : (eI (m.take k) j).length ≤ m.length := Nat.le_trans (eI_length _ _) (by simp; omega)
        have HS : Hid (eI (m.take (k + 1)) j = eI (m.take k) j ++ [e]) := eI_miss m k j hj e he
        clear hj he
        go_wp2_with (at_builtin; refine wpList_append_own _ rfl _ _ 25 rfl w.heap.size 29 i0 (.agg #[.int .i64 0, .int .i64 0]) 2 16 Ybgv.underlying25 hi hz0 hz1 hz2 rfl (by decide) _ _ _ rfl (World.ownsRow.alloc hown _) ⟨wr.heap.size, 0, none⟩ 1 1 [.int .i64 e.1, .int .i64 e.2] rfl rfl (cells_two _ _ _ _) (ones_two _ _) ?c3 ?c4 ?c5 ?_)
        case c3 => unfold maxLen; omega
        case c4 => omega
        case c5 => first | omega | (simp; omega)
        intro v' w1 hown' hgrow _
        have R1 : EntB w1 w.heap.size v' (eI (m.take (k + 1)) j) := by
          rw [HS.out]
          exact EntB.snoc hown' (by first | omega | (simp; omega) | (simp; done))
        have R2 : Below w.heap.size w w1 := (hb.alloc (by omega) _).grown hgrow (by first | omega | (simp; omega)) (fun q hq => (World.ownsRow.lt hown q hq).1)
        clear hown' hgrow hown hb g1' g2'
        go_wp2
        go_roundw
        case rel => exact ⟨k + 1, by omega, by go_num, R1, R2⟩
        case measure => simp [intOf]; omega
    · have hlt' : ¬ ((k : Int) < (m.length : Int)) := by omega
      have hke : m.take k = m := List.take_of_length_le (by omega)
      rw [hke] at hown
      clear hke
      have R1 := hide hown
      have R2 := hide hb
      clear hown hb
      go_wp2
      go_ret
      exact ⟨_, rfl, R1.out, R2.out⟩

set_option maxHeartbeats 400000 in
theorem del31_any {w : World} {base : Nat} {v : Value} {m : List (Int × Int)} (j : Int) (h : EntB w base v m) (hm : m.length ≤ 100000) :
    Calls Ybgv.prog 31 #[v, .int .i64 j] w fun e w' => ∃ v', e = .returned v' ∧ EntB w' w.heap.size v' (eI m j) ∧ Below w.heap.size w w' := by
  obtain ⟨a, cap, b, rfl, ha, _, _, _⟩ := h.form
  obtain ⟨i0, hi, hz0, hz1, hz2⟩ := info_parts Ybgv.info29
  have hbl : 0 < m.length → b < w.heap.size := fun hp => by obtain rfl := ha hp; exact (h.lt b rfl).2
  have H := hide h
  clear h
  go_enter Ybgv.func31, Ybgv.ntmps31
  go_wp2_with (at_make; refine wpList_make_own _ rfl _ _ 25 rfl w.heap.size 29 i0 (.agg #[.int .i64 0, .int .i64 0]) 2 Ybgv.underlying25 hi hz0 hz1 _ _ _ m.length rfl rfl (by omega) ?b1 ?b2 ?b3 ?_)
  case b1 => rw [hz2]; omega
  case b2 => unfold maxLen; omega
  case b3 => exact Nat.le_refl _
  intro w0 hown0 hgrow0
  have E0 : EntB w0 w.heap.size (.slice (some ⟨w.heap.size, 0, none⟩) 0 m.length) [] := hown0
  have B0 := (Below.refl w.heap.size w).grown hgrow0 (Nat.le_refl _) (by simp)
  clear hown0 hgrow0
  go_wp2
  go_loopw [5, 6] (fun o i wr => ∃ k : Nat, k ≤ m.length ∧ i = .int .i64 k ∧ EntB wr w.heap.size o (eI (m.take k) j) ∧ Below w.heap.size w wr) (fun _ i _ => m.length - (intOf i).toNat)
  case atStart => exact ⟨0, Nat.zero_le _, rfl, by rw [List.take_zero]; unfold eI; split <;> exact E0, B0⟩
  case round =>
    clear E0 B0
    obtain ⟨k, hk, rfl, hown, hb⟩ := hrel
    by_cases hlt : k < m.length
    · have hlt' : (k : Int) < (m.length : Int) := by omega
      obtain rfl := ha (by omega)
      have hbw := hbl (by omega)
      obtain ⟨e, he⟩ : ∃ e, m[k]? = some e := ⟨m[k], by simp [hlt]⟩
      obtain ⟨g1, g2⟩ := H.out.cells he
      have g1' : wr.cell? ⟨b, k * 2, none⟩ = some (.int .i64 e.1) := (hb.cell (p := ⟨b, k * 2, none⟩) hbw).trans g1
      have g2' : wr.cell? ⟨b, k * 2 + 1, none⟩ = some (.int .i64 e.2) := (hb.cell (p := ⟨b, k * 2 + 1, none⟩) hbw).trans g2
      clear g1 g2
      have hws := hb.size
      by_cases hj : (k : Int) = j
      · have hjb : ((k : Int) != j) = false := by simp [hj]
        have HJ := hide hj
        have HE := hide he
        clear hj he
        go_wp2
        go_roundw
        case rel => exact ⟨k + 1, by omega, by go_num, by have e1 := eI_hit m k; rw [← HJ.out] at hown ⊢; rw [e1]; exact hown, hb⟩
        case measure => simp [intOf]; omega
      · have hjb : ((k : Int) != j) = true := by simp [hj]
        have hle : (eI (m.take k) j).length ≤ m.length := Nat.le_trans (eI_length _ _) (by simp; omega)
        have HS : Hid (eI (m.take (k + 1)) j = eI (m.take k) j ++ [e]) := eI_miss m k j hj e he
        clear hj he
        go_wp2_with (at_builtin; refine wpList_append_own _ rfl _ _ 25 rfl w.heap.size 29 i0 (.agg #[.int .i64 0, .int .i64 0]) 2 16 Ybgv.underlying25 hi hz0 hz1 hz2 rfl (by decide) _ _ _ rfl (World.ownsRow.alloc hown _) ⟨wr.heap.size, 0, none⟩ 1 1 [.int .i64 e.1, .int .i64 e.2] rfl rfl (cells_two _ _ _ _) (ones_two _ _) ?c3 ?c4 ?c5 ?_)
        case c3 => unfold maxLen; omega
        case c4 => omega
        case c5 => first | omega | (simp; omega)
        intro v' w1 hown' hgrow _
        have R1 : EntB w1 w.heap.size v' (eI (m.take (k + 1)) j) := by
          rw [HS.out]
          exact EntB.snoc hown' (by first | omega | (simp; omega) | (simp; done))
        have R2 : Below w.heap.size w w1 := (hb.alloc (by omega) _).grown hgrow (by first | omega | (simp; omega)) (fun q hq => (World.ownsRow.lt hown q hq).1)
        clear hown' hgrow hown hb g1' g2'
        go_wp2
        go_roundw
        case rel => exact ⟨k + 1, by omega, by go_num, R1, R2⟩
        case measure => simp [intOf]; omega
    · have hlt' : ¬ ((k : Int) < (m.length : Int)) := by omega
      have hke : m.take k = m := List.take_of_length_le (by omega)
      rw [hke] at hown
      clear hke
      have R1 := hide hown
      have R2 := hide hb
      clear hown hb
      go_wp2
      go_ret
      exact ⟨_, rfl, R1.out, R2.out⟩

set_option maxHeartbeats 400000 in
theorem del45_any {w : World} {base : Nat} {v : Value} {m : List (Int × Int)} (j : Int) (h : EntB w base v m) (hm : m.length ≤ 100000) :
    Calls Ybgv.prog 45 #[v, .int .i64 j] w fun e w' => ∃ v', e = .returned v' ∧ EntB w' w.heap.size v' (eI m j) ∧ Below w.heap.size w w' := by
  obtain ⟨a, cap, b, rfl, ha, _, _, _⟩ := h.form
  obtain ⟨i0, hi, hz0, hz1, hz2⟩ := info_parts Ybgv.info29
  have hbl : 0 < m.length → b < w.heap.size := fun hp => by obtain rfl := ha hp; exact (h.lt b rfl).2
  have H := hide h
  clear h
  go_enter Ybgv.func45, Ybgv.ntmps45
  go_wp2_with (at_make; refine wpList_make_own _ rfl _ _ 25 rfl w.heap.size 29 i0 (.agg #[.int .i64 0, .int .i64 0]) 2 Ybgv.underlying25 hi hz0 hz1 _ _ _ m.length rfl rfl (by omega) ?b1 ?b2 ?b3 ?_)
  case b1 => rw [hz2]; omega
  case b2 => unfold maxLen; omega
  case b3 => exact Nat.le_refl _
  intro w0 hown0 hgrow0
  have E0 : EntB w0 w.heap.size (.slice (some ⟨w.heap.size, 0, none⟩) 0 m.length) [] := hown0
  have B0 := (Below.refl w.heap.size w).grown hgrow0 (Nat.le_refl _) (by simp)
  clear hown0 hgrow0
  go_wp2
  go_loopw [5, 6] (fun o i wr => ∃ k : Nat, k ≤ m.length ∧ i = .int .i64 k ∧ EntB wr w.heap.size o (eI (m.take k) j) ∧ Below w.heap.size w wr) (fun _ i _ => m.length - (intOf i).toNat)
  case atStart => exact ⟨0, Nat.zero_le _, rfl, by rw [List.take_zero]; unfold eI; split <;> exact E0, B0⟩
  case round =>
    clear E0 B0
    obtain ⟨k, hk, rfl, hown, hb⟩ := hrel
    by_cases hlt : k < m.length
    · have hlt' : (k : Int) < (m.length : Int) := by omega
      obtain rfl := ha (by omega)
      have hbw := hbl (by omega)
      obtain ⟨e, he⟩ : ∃ e, m[k]? = some e := ⟨m[k], by simp [hlt]⟩
      obtain ⟨g1, g2⟩ := H.out.cells he
      have g1' : wr.cell? ⟨b, k * 2, none⟩ = some (.int .i64 e.1) := (hb.cell (p := ⟨b, k * 2, none⟩) hbw).trans g1
      have g2' : wr.cell? ⟨b, k * 2 + 1, none⟩ = some (.int .i64 e.2) := (hb.cell (p := ⟨b, k * 2 + 1, none⟩) hbw).trans g2
      clear g1 g2
      have hws := hb.size
      by_cases hj : (k : Int) = j
      · have hjb : ((k : Int) != j) = false := by simp [hj]
        have HJ := hide hj
        have HE := hide he
        clear hj he
        go_wp2
        go_roundw
        case rel => exact ⟨k + 1, by omega, by go_num, by have e1 := eI_hit m k; rw [← HJ.out] at hown ⊢; rw [e1]; exact hown, hb⟩
        case measure => simp [intOf]; omega
      · have hjb : ((k : Int) != j) = true := by simp [hj]
        have hle : (eI (m.take k) j).length ≤ m.length := Nat.le_trans (eI_length _ _) (by simp; omega)
        have HS : Hid (eI (m.take (k + 1)) j = eI (m.take k) j ++ [e]) := eI_miss m k j hj e he
        clear hj he
        go_wp2_with (at_builtin; refine wpList_append_own _ rfl _ _ 25 rfl w.heap.size 29 i0 (.agg #[.int .i64 0, .int .i64 0]) 2 16 Ybgv.underlying25 hi hz0 hz1 hz2 rfl (by decide) _ _ _ rfl (World.ownsRow.alloc hown _) ⟨wr.heap.size, 0, none⟩ 1 1 [.int .i64 e.1, .int .i64 e.2] rfl rfl (cells_two _ _ _ _) (ones_two _ _) ?c3 ?c4 ?c5 ?_)
        case c3 => unfold maxLen; omega
        case c4 => omega
        case c5 => first | omega | (simp; omega)
        intro v' w1 hown' hgrow _
        have R1 : EntB w1 w.heap.size v' (eI (m.take (k + 1)) j) := by
          rw [HS.out]
          exact EntB.snoc hown' (by first | omega | (simp; omega) | (simp; done))
        have R2 : Below w.heap.size w w1 := (hb.alloc (by omega) _).grown hgrow (by first | omega | (simp; omega)) (fun q hq => (World.ownsRow.lt hown q hq).1)
        clear hown' hgrow hown hb g1' g2'
        go_wp2
        go_roundw
        case rel => exact ⟨k + 1, by omega, by go_num, R1, R2⟩
        case measure => simp [intOf]; omega
    · have hlt' : ¬ ((k : Int) < (m.length : Int)) := by omega
      have hke : m.take k = m := List.take_of_length_le (by omega)
      rw [hke] at hown
      clear hke
      have R1 := hide hown
      have R2 := hide hb
      clear hown hb
      go_wp2
      go_ret
      exact ⟨_, rfl, R1.out, R2.out⟩

set_option maxHeartbeats 400000 in
theorem del52_any {w : World} {base : Nat} {v : Value} {m : List (Int × Int)} (j : Int) (h : EntB w base v m) (hm : m.length ≤ 100000) :
    Calls Ybgv.prog 52 #[v, .int .i64 j] w fun e w' => ∃ v', e = .returned v' ∧ EntB w' w.heap.size v' (eI m j) ∧ Below w.heap.size w w' := by
  obtain ⟨a, cap, b, rfl, ha, _, _, _⟩ := h.form
  obtain ⟨i0, hi, hz0, hz1, hz2⟩ := info_parts Ybgv.info29
  have hbl : 0 < m.length → b < w.heap.size := fun hp => by obtain rfl := ha hp; exact (h.lt b rfl).2
  have H := hide h
  clear h
  go_enter Ybgv.func52, Ybgv.ntmps52
  go_wp2_with (at_make; refine wpList_make_own _ rfl _ _ 25 rfl w.heap.size 29 i0 (.agg #[.int .i64 0, .int .i64 0]) 2 Ybgv.underlying25 hi hz0 hz1 _ _ _ m.length rfl rfl (by omega) ?b1 ?b2 ?b3 ?_)
  case b1 => rw [hz2]; omega
  case b2 => unfold maxLen; omega
  case b3 => exact Nat.le_refl _
  intro w0 hown0 hgrow0
  have E0 : EntB w0 w.heap.size (.slice (some ⟨w.heap.size, 0, none⟩) 0 m.length) [] := hown0
  have B0 := (Below.refl w.heap.size w).grown hgrow0 (Nat.le_refl _) (by simp)
  clear hown0 hgrow0
  go_wp2
  go_loopw [5, 6] (fun o i wr => ∃ k : Nat, k ≤ m.length ∧ i = .int .i64 k ∧ EntB wr w.heap.size o (eI (m.take k) j) ∧ Below w.heap.size w wr) (fun _ i _ => m.length - (intOf i).toNat)
  case atStart => exact ⟨0, Nat.zero_le _, rfl, by rw [List.take_zero]; unfold eI; split <;> exact E0, B0⟩
  case round =>
    clear E0 B0
    obtain ⟨k, hk, rfl, hown, hb⟩ := hrel
    by_cases hlt : k < m.length
    · have hlt' : (k : Int) < (m.length : Int) := by omega
      obtain rfl := ha (by omega)
      have hbw := hbl (by omega)
      obtain ⟨e, he⟩ : ∃ e, m[k]? = some e := ⟨m[k], by simp [hlt]⟩
      obtain ⟨g1, g2⟩ := H.out.cells he
      have g1' : wr.cell? ⟨b, k * 2, none⟩ = some (.int .i64 e.1) := (hb.cell (p := ⟨b, k * 2, none⟩) hbw).trans g1
      have g2' : wr.cell? ⟨b, k * 2 + 1, none⟩ = some (.int .i64 e.2) := (hb.cell (p := ⟨b, k * 2 + 1, none⟩) hbw).trans g2
      clear g1 g2
      have hws := hb.size
      by_cases hj : (k : Int) = j
      · have hjb : ((k : Int) != j) = false := by simp [hj]
        have HJ := hide hj
        have HE := hide he
        clear hj he
        go_wp2
        go_roundw
        case rel => exact ⟨k + 1, by omega, by go_num, by have e1 := eI_hit m k; rw [← HJ.out] at hown ⊢; rw [e1]; exact hown, hb⟩
        case measure => simp [intOf]; omega
      · have hjb : ((k : Int) != j) = true := by simp [hj]
        have hle : (eI (m.take k) j).length ≤ m.length := Nat.le_trans (eI_length _ _) (by simp; omega)
        have HS : Hid (eI (m.take (k + 1)) j = eI (m.take k) j ++ [e]) := eI_miss m k j hj e he
        clear hj he
        go_wp2_with (at_builtin; refine wpList_append_own _ rfl _ _ 25 rfl w.heap.size 29 i0 (.agg #[.int .i64 0, .int .i64 0]) 2 16 Ybgv.underlying25 hi hz0 hz1 hz2 rfl (by decide) _ _ _ rfl (World.ownsRow.alloc hown _) ⟨wr.heap.size, 0, none⟩ 1 1 [.int .i64 e.1, .int .i64 e.2] rfl rfl (cells_two _ _ _ _) (ones_two _ _) ?c3 ?c4 ?c5 ?_)
        case c3 => unfold maxLen; omega
        case c4 => omega
        case c5 => first | omega | (simp; omega)
        intro v' w1 hown' hgrow _
        have R1 : EntB w1 w.heap.size v' (eI (m.take (k + 1)) j) := by
          rw [HS.out]
          exact EntB.snoc hown' (by first | omega | (simp; omega) | (simp; done))
        have R2 : Below w.heap.size w w1 := (hb.alloc (by omega) _).grown hgrow (by first | omega | (simp; omega)) (fun q hq => (World.ownsRow.lt hown q hq).1)
        clear hown' hgrow hown hb g1' g2'
        go_wp2
        go_roundw
        case rel => exact ⟨k + 1, by omega, by go_num, R1, R2⟩
        case measure => simp [intOf]; omega
    · have hlt' : ¬ ((k : Int) < (m.length : Int)) := by omega
      have hke : m.take k = m := List.take_of_length_le (by omega)
      rw [hke] at hown
      clear hke
      have R1 := hide hown
      have R2 := hide hb
      clear hown hb
      go_wp2
      go_ret
      exact ⟨_, rfl, R1.out, R2.out⟩

set_option maxHeartbeats 400000 in
theorem del57_any {w : World} {base : Nat} {v : Value} {m : List (Int × Int)} (j : Int) (h : EntB w base v m) (hm : m.length ≤ 100000) :
    Calls Ybgv.prog 57 #[v, .int .i64 j] w fun e w' => ∃ v', e = .returned v' ∧ EntB w' w.heap.size v' (eI m j) ∧ Below w.heap.size w w' := by
  obtain ⟨a, cap, b, rfl, ha, _, _, _⟩ := h.form
  obtain ⟨i0, hi, hz0, hz1, hz2⟩ := info_parts Ybgv.info29
  have hbl : 0 < m.length → b < w.heap.size := fun hp => by obtain rfl := ha hp; exact (h.lt b rfl).2
  have H := hide h
  clear h
  go_enter Ybgv.func57, Ybgv.ntmps57
  go_wp2_with (at_make; refine wpList_make_own _ rfl _ _ 25 rfl w.heap.size 29 i0 (.agg #[.int .i64 0, .int .i64 0]) 2 Ybgv.underlying25 hi hz0 hz1 _ _ _ m.length rfl rfl (by omega) ?b1 ?b2 ?b3 ?_)
  case b1 => rw [hz2]; omega
  case b2 => unfold maxLen; omega
  case b3 => exact Nat.le_refl _
  intro w0 hown0 hgrow0
  have E0 : EntB w0 w.heap.size (.slice (some ⟨w.heap.size, 0, none⟩) 0 m.length) [] := hown0
  have B0 := (Below.refl w.heap.size w).grown hgrow0 (Nat.le_refl _) (by simp)
  clear hown0 hgrow0
  go_wp2
  go_loopw [5, 6] (fun o i wr => ∃ k : Nat, k ≤ m.length ∧ i = .int .i64 k ∧ EntB wr w.heap.size o (eI (m.take k) j) ∧ Below w.heap.size w wr) (fun _ i _ => m.length - (intOf i).toNat)
  case atStart => exact ⟨0, Nat.zero_le _, rfl, by rw [List.take_zero]; unfold eI; split <;> exact E0, B0⟩
  case round =>
    clear E0 B0
    obtain ⟨k, hk, rfl, hown, hb⟩ := hrel
    by_cases hlt : k < m.length
    · have hlt' : (k : Int) < (m.length : Int) := by omega
      obtain rfl := ha (by omega)
      have hbw := hbl (by omega)
      obtain ⟨e, he⟩ : ∃ e, m[k]? = some e := ⟨m[k], by simp [hlt]⟩
      obtain ⟨g1, g2⟩ := H.out.cells he
      have g1' : wr.cell? ⟨b, k * 2, none⟩ = some (.int .i64 e.1) := (hb.cell (p := ⟨b, k * 2, none⟩) hbw).trans g1
      have g2' : wr.cell? ⟨b, k * 2 + 1, none⟩ = some (.int .i64 e.2) := (hb.cell (p := ⟨b, k * 2 + 1, none⟩) hbw).trans g2
      clear g1 g2
      have hws := hb.size
      by_cases hj : (k : Int) = j
      · have hjb : ((k : Int) != j) = false := by simp [hj]
        have HJ := hide hj
        have HE := hide he
        clear hj he
        go_wp2
        go_roundw
        case rel => exact ⟨k + 1, by omega, by go_num, by have e1 := eI_hit m k; rw [← HJ.out] at hown ⊢; rw [e1]; exact hown, hb⟩
        case measure => simp [intOf]; omega
      · have hjb : ((k : Int) != j) = true := by simp [hj]
        have hle : (eI (m.take k) j).length ≤ m.length := Nat.le_trans (eI_length _ _) (by simp; omega)
        have HS : Hid (eI (m.take (k + 1)) j = eI (m.take k) j ++ [e]) := eI_miss m k j hj e he
        clear hj he
        go_wp2_with (at_builtin; refine wpList_append_own _ rfl _ _ 25 rfl w.heap.size 29 i0 (.agg #[.int .i64 0, .int .i64 0]) 2 16 Ybgv.underlying25 hi hz0 hz1 hz2 rfl (by decide) _ _ _ rfl (World.ownsRow.alloc hown _) ⟨wr.heap.size, 0, none⟩ 1 1 [.int .i64 e.1, .int .i64 e.2] rfl rfl (cells_two _ _ _ _) (ones_two _ _) ?c3 ?c4 ?c5 ?_)
        case c3 => unfold maxLen; omega
        case c4 => omega
        case c5 => first | omega | (simp; omega)
        intro v' w1 hown' hgrow _
        have R1 : EntB w1 w.heap.size v' (eI (m.take (k + 1)) j) := by
          rw [HS.out]
          exact EntB.snoc hown' (by first | omega | (simp; omega) | (simp; done))
        have R2 : Below w.heap.size w w1 := (hb.alloc (by omega) _).grown hgrow (by first | omega | (simp; omega)) (fun q hq => (World.ownsRow.lt hown q hq).1)
        clear hown' hgrow hown hb g1' g2'
        go_wp2
        go_roundw
        case rel => exact ⟨k + 1, by omega, by go_num, R1, R2⟩
        case measure => simp [intOf]; omega
    · have hlt' : ¬ ((k : Int) < (m.length : Int)) := by omega
      have hke : m.take k = m := List.take_of_length_le (by omega)
      rw [hke] at hown
      clear hke
      have R1 := hide hown
      have R2 := hide hb
      clear hown hb
      go_wp2
      go_ret
      exact ⟨_, rfl, R1.out, R2.out⟩

end Go.Proofs.Ymwhbg
