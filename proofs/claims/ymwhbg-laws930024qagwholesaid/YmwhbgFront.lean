/-
  The models' functions that lay an entry in front.
-/
import Derived.Test.YmwhbgDel
namespace Go.Proofs.Ymwhbg
open Go.RowKit
set_option linter.unusedVariables false
set_option linter.unusedSimpArgs false

theorem take_step (m : List (Int × Int)) (k : Nat) (e : Int × Int) (he : m[k]? = some e) : m.take (k + 1) = m.take k ++ [e] := by
  obtain ⟨hk, rfl⟩ := List.getElem?_eq_some_iff.1 he
  exact List.take_succ_eq_append_getElem hk

set_option maxHeartbeats 400000 in
theorem front22_any {w : World} {base : Nat} {v : Value} {m : List (Int × Int)} (j : Int) (p q : Int) (h : EntB w base v m) (hm : m.length ≤ 100000) :
    Calls Ybgv.prog 22 #[v, .int .i64 j, .agg #[.int .i64 p, .int .i64 q]] w fun e w' => ∃ v', e = .returned v' ∧ EntB w' w.heap.size v' ((p, q) :: eI m j) ∧ Below w.heap.size w w' := by
  obtain ⟨a, cap, b, rfl, ha, _, _, _⟩ := h.form
  obtain ⟨i0, hi, hz0, hz1, hz2⟩ := info_parts Ybgv.info29
  have hbl : 0 < m.length → b < w.heap.size := fun hp => by obtain rfl := ha hp; exact (h.lt b rfl).2
  have H := hide h
  clear h
  go_enter Ybgv.func22, Ybgv.ntmps22
  go_wp2_with (at_make; refine wpList_make_own _ rfl _ _ 25 rfl w.heap.size 29 i0 (.agg #[.int .i64 0, .int .i64 0]) 2 Ybgv.underlying25 hi hz0 hz1 _ _ _ (m.length + 1) rfl rfl (by omega) ?b1 ?b2 ?b3 ?_)
  case b1 => rw [hz2]; omega
  case b2 => unfold maxLen; omega
  case b3 => first | omega | (simp; omega) | simp
  intro w0 hown0 hgrow0
  have B0 := ((Below.refl w.heap.size w).alloc (Nat.le_refl _) _).grown hgrow0 (by first | omega | (simp; omega) | simp) (by simp)
  have hsz0 : w.heap.size + 1 ≤ w0.heap.size := by have := hgrow0.size; simp at this; omega
  have q0 : w0.cell? ⟨w.heap.size, 0, none⟩ = some (.int .i64 p) := hgrow0.cell (by simp) (by simp)
  have q1 : w0.cell? ⟨w.heap.size, 1, none⟩ = some (.int .i64 q) := hgrow0.cell (by simp) (by simp)
  clear hgrow0
  go_wp2_with (at_builtin; refine wpList_append_own _ rfl _ _ 25 rfl w.heap.size 29 i0 (.agg #[.int .i64 0, .int .i64 0]) 2 16 Ybgv.underlying25 hi hz0 hz1 hz2 rfl (by decide) _ _ _ rfl (World.ownsRow.alloc hown0 _) ⟨w0.heap.size, 0, none⟩ 1 1 [.int .i64 p, .int .i64 q] rfl rfl (cells_two _ _ _ _) (ones_two _ _) ?c3 ?c4 ?c5 ?_)
  case c3 => unfold maxLen; omega
  case c4 => omega
  case c5 => first | omega | (simp; omega)
  intro v0 w1 hown1 hgrow1 _
  have E1 : EntB w1 w.heap.size v0 [(p, q)] := hown1
  have B1 : Below w.heap.size w w1 := (B0.alloc (by omega) _).grown hgrow1 (by first | omega | (simp; omega)) (fun q hq => (World.ownsRow.lt hown0 q hq).1)
  clear hown0 hown1 hgrow1 B0 q0 q1
  go_wp2
  go_loopw [7, 8] (fun o i wr => ∃ k : Nat, k ≤ m.length ∧ i = .int .i64 k ∧ EntB wr w.heap.size o ((p, q) :: eI (m.take k) j) ∧ Below w.heap.size w wr) (fun _ i _ => m.length - (intOf i).toNat)
  case atStart => exact ⟨0, Nat.zero_le _, rfl, by rw [List.take_zero]; unfold eI; split <;> exact E1, B1⟩
  case round =>
    clear E1 B1
    obtain ⟨k, hk, rfl, hown, hb⟩ := hrel
    by_cases hlt : k < m.length
    · have hlt' : (k : Int) < (m.length : Int) := by omega
      obtain rfl := ha (by omega)
      have hbw := hbl (by omega)
      obtain ⟨e, he⟩ : ∃ e, m[k]? = some e := ⟨m[k], by simp [hlt]⟩
      obtain ⟨g1, g2⟩ := H.out.cells he
      have g1' : wr.cell? ⟨b, k * 2, none⟩ = some (.int .i64 e.1) := (hb.cell (p := ⟨b, k * 2, none⟩) hbw).trans g1
      have g2' : wr.cell? ⟨b, k * 2 + 1, none⟩ = some (.int .i64 e.2) := (hb.cell (p := ⟨b, k * 2 + 1, none⟩) hbw).trans g2
      clear g1 g2
      have hws := hb.size
      by_cases hj : (k : Int) = j
      · have hjb : ((k : Int) != j) = false := by simp [hj]
        have HJ := hide hj
        have HE := hide he
        clear hj he
        go_wp2
        go_roundw
        case rel => exact ⟨k + 1, by omega, by go_num, by have e1 := eI_hit m k; rw [← HJ.out] at hown ⊢; rw [e1]; exact hown, hb⟩
        case measure => simp [intOf]; omega
      · have hjb : ((k : Int) != j) = true := by simp [hj]
        have hle : (eI (m.take k) j).length ≤ m.length := Nat.le_trans (eI_length _ _) (by simp; omega)
        have HS : Hid ((p, q) :: eI (m.take (k + 1)) j = ((p, q) :: eI (m.take k) j) ++ [e]) := by unfold Hid; rw [eI_miss m k j hj e he]; rfl
        clear hj he
        go_wp2_with (at_builtin; refine wpList_append_own _ rfl _ _ 25 rfl w.heap.size 29 i0 (.agg #[.int .i64 0, .int .i64 0]) 2 16 Ybgv.underlying25 hi hz0 hz1 hz2 rfl (by decide) _ _ _ rfl (World.ownsRow.alloc hown _) ⟨wr.heap.size, 0, none⟩ 1 1 [.int .i64 e.1, .int .i64 e.2] rfl rfl (cells_two _ _ _ _) (ones_two _ _) ?c3 ?c4 ?c5 ?_)
        case c3 => unfold maxLen; omega
        case c4 => omega
        case c5 => first | omega | (simp; omega)
        intro v' w1 hown' hgrow _
        have R1 : EntB w1 w.heap.size v' ((p, q) :: eI (m.take (k + 1)) j) := by
          rw [HS.out]
          exact EntB.snoc hown' (by first | omega | (simp; omega) | (simp; done))
        have R2 : Below w.heap.size w w1 := (hb.alloc (by omega) _).grown hgrow (by first | omega | (simp; omega)) (fun q hq => (World.ownsRow.lt hown q hq).1)
        clear hown' hgrow hown hb g1' g2'
        go_wp2
        go_roundw
        case rel => exact ⟨k + 1, by omega, by go_num, R1, R2⟩
        case measure => simp [intOf]; omega
    · have hlt' : ¬ ((k : Int) < (m.length : Int)) := by omega
      have hke : m.take k = m := List.take_of_length_le (by omega)
      rw [hke] at hown
      clear hke
      have R1 := hide hown
      have R2 := hide hb
      clear hown hb
      go_wp2
      go_ret
      exact ⟨_, rfl, R1.out, R2.out⟩

set_option maxHeartbeats 400000 in
theorem front32_any {w : World} {base : Nat} {v : Value} {m : List (Int × Int)} (j : Int) (p q : Int) (h : EntB w base v m) (hm : m.length ≤ 100000) :
    Calls Ybgv.prog 32 #[v, .int .i64 j, .agg #[.int .i64 p, .int .i64 q]] w fun e w' => ∃ v', e = .returned v' ∧ EntB w' w.heap.size v' ((p, q) :: eI m j) ∧ Below w.heap.size w w' := by
  obtain ⟨a, cap, b, rfl, ha, _, _, _⟩ := h.form
  obtain ⟨i0, hi, hz0, hz1, hz2⟩ := info_parts Ybgv.info29
  have hbl : 0 < m.length → b < w.heap.size := fun hp => by obtain rfl := ha hp; exact (h.lt b rfl).2
  have H := hide h
  clear h
  go_enter Ybgv.func32, Ybgv.ntmps32
  go_wp2_with (at_make; refine wpList_make_own _ rfl _ _ 25 rfl w.heap.size 29 i0 (.agg #[.int .i64 0, .int .i64 0]) 2 Ybgv.underlying25 hi hz0 hz1 _ _ _ (m.length + 1) rfl rfl (by omega) ?b1 ?b2 ?b3 ?_)
  case b1 => rw [hz2]; omega
  case b2 => unfold maxLen; omega
  case b3 => first | omega | (simp; omega) | simp
  intro w0 hown0 hgrow0
  have B0 := ((Below.refl w.heap.size w).alloc (Nat.le_refl _) _).grown hgrow0 (by first | omega | (simp; omega) | simp) (by simp)
  have hsz0 : w.heap.size + 1 ≤ w0.heap.size := by have := hgrow0.size; simp at this; omega
  have q0 : w0.cell? ⟨w.heap.size, 0, none⟩ = some (.int .i64 p) := hgrow0.cell (by simp) (by simp)
  have q1 : w0.cell? ⟨w.heap.size, 1, none⟩ = some (.int .i64 q) := hgrow0.cell (by simp) (by simp)
  clear hgrow0
  go_wp2_with (at_builtin; refine wpList_append_own _ rfl _ _ 25 rfl w.heap.size 29 i0 (.agg #[.int .i64 0, .int .i64 0]) 2 16 Ybgv.underlying25 hi hz0 hz1 hz2 rfl (by decide) _ _ _ rfl (World.ownsRow.alloc hown0 _) ⟨w0.heap.size, 0, none⟩ 1 1 [.int .i64 p, .int .i64 q] rfl rfl (cells_two _ _ _ _) (ones_two _ _) ?c3 ?c4 ?c5 ?_)
  case c3 => unfold maxLen; omega
  case c4 => omega
  case c5 => first | omega | (simp; omega)
  intro v0 w1 hown1 hgrow1 _
  have E1 : EntB w1 w.heap.size v0 [(p, q)] := hown1
  have B1 : Below w.heap.size w w1 := (B0.alloc (by omega) _).grown hgrow1 (by first | omega | (simp; omega)) (fun q hq => (World.ownsRow.lt hown0 q hq).1)
  clear hown0 hown1 hgrow1 B0 q0 q1
  go_wp2
  go_loopw [7, 8] (fun o i wr => ∃ k : Nat, k ≤ m.length ∧ i = .int .i64 k ∧ EntB wr w.heap.size o ((p, q) :: eI (m.take k) j) ∧ Below w.heap.size w wr) (fun _ i _ => m.length - (intOf i).toNat)
  case atStart => exact ⟨0, Nat.zero_le _, rfl, by rw [List.take_zero]; unfold eI; split <;> exact E1, B1⟩
  case round =>
    clear E1 B1
    obtain ⟨k, hk, rfl, hown, hb⟩ := hrel
    by_cases hlt : k < m.length
    · have hlt' : (k : Int) < (m.length : Int) := by omega
      obtain rfl := ha (by omega)
      have hbw := hbl (by omega)
      obtain ⟨e, he⟩ : ∃ e, m[k]? = some e := ⟨m[k], by simp [hlt]⟩
      obtain ⟨g1, g2⟩ := H.out.cells he
      have g1' : wr.cell? ⟨b, k * 2, none⟩ = some (.int .i64 e.1) := (hb.cell (p := ⟨b, k * 2, none⟩) hbw).trans g1
      have g2' : wr.cell? ⟨b, k * 2 + 1, none⟩ = some (.int .i64 e.2) := (hb.cell (p := ⟨b, k * 2 + 1, none⟩) hbw).trans g2
      clear g1 g2
      have hws := hb.size
      by_cases hj : (k : Int) = j
      · have hjb : ((k : Int) != j) = false := by simp [hj]
        have HJ := hide hj
        have HE := hide he
        clear hj he
        go_wp2
        go_roundw
        case rel => exact ⟨k + 1, by omega, by go_num, by have e1 := eI_hit m k; rw [← HJ.out] at hown ⊢; rw [e1]; exact hown, hb⟩
        case measure => simp [intOf]; omega
      · have hjb : ((k : Int) != j) = true := by simp [hj]
        have hle : (eI (m.take k) j).length ≤ m.length := Nat.le_trans (eI_length _ _) (by simp; omega)
        have HS : Hid ((p, q) :: eI (m.take (k + 1)) j = ((p, q) :: eI (m.take k) j) ++ [e]) := by unfold Hid; rw [eI_miss m k j hj e he]; rfl
        clear hj he
        go_wp2_with (at_builtin; refine wpList_append_own _ rfl _ _ 25 rfl w.heap.size 29 i0 (.agg #[.int .i64 0, .int .i64 0]) 2 16 Ybgv.underlying25 hi hz0 hz1 hz2 rfl (by decide) _ _ _ rfl (World.ownsRow.alloc hown _) ⟨wr.heap.size, 0, none⟩ 1 1 [.int .i64 e.1, .int .i64 e.2] rfl rfl (cells_two _ _ _ _) (ones_two _ _) ?c3 ?c4 ?c5 ?_)
        case c3 => unfold maxLen; omega
        case c4 => omega
        case c5 => first | omega | (simp; omega)
        intro v' w1 hown' hgrow _
        have R1 : EntB w1 w.heap.size v' ((p, q) :: eI (m.take (k + 1)) j) := by
          rw [HS.out]
          exact EntB.snoc hown' (by first | omega | (simp; omega) | (simp; done))
        have R2 : Below w.heap.size w w1 := (hb.alloc (by omega) _).grown hgrow (by first | omega | (simp; omega)) (fun q hq => (World.ownsRow.lt hown q hq).1)
        clear hown' hgrow hown hb g1' g2'
        go_wp2
        go_roundw
        case rel => exact ⟨k + 1, by omega, by go_num, R1, R2⟩
        case measure => simp [intOf]; omega
    · have hlt' : ¬ ((k : Int) < (m.length : Int)) := by omega
      have hke : m.take k = m := List.take_of_length_le (by omega)
      rw [hke] at hown
      clear hke
      have R1 := hide hown
      have R2 := hide hb
      clear hown hb
      go_wp2
      go_ret
      exact ⟨_, rfl, R1.out, R2.out⟩

set_option maxHeartbeats 400000 in
theorem front14_any {w : World} {base : Nat} {v : Value} {m : List (Int × Int)} (p q : Int) (h : EntB w base v m) (hm : m.length ≤ 100000) :
    Calls Ybgv.prog 14 #[v, .agg #[.int .i64 p, .int .i64 q]] w fun e w' => ∃ v', e = .returned v' ∧ EntB w' w.heap.size v' ((p, q) :: m) ∧ Below w.heap.size w w' := by
  obtain ⟨a, cap, b, rfl, ha, _, _, _⟩ := h.form
  obtain ⟨i0, hi, hz0, hz1, hz2⟩ := info_parts Ybgv.info29
  have hbl : 0 < m.length → b < w.heap.size := fun hp => by obtain rfl := ha hp; exact (h.lt b rfl).2
  have H := hide h
  clear h
  go_enter Ybgv.func14, Ybgv.ntmps14
  go_wp2_with (at_make; refine wpList_make_own _ rfl _ _ 25 rfl w.heap.size 29 i0 (.agg #[.int .i64 0, .int .i64 0]) 2 Ybgv.underlying25 hi hz0 hz1 _ _ _ (m.length + 1) rfl rfl (by omega) ?b1 ?b2 ?b3 ?_)
  case b1 => rw [hz2]; omega
  case b2 => unfold maxLen; omega
  case b3 => first | omega | (simp; omega) | simp
  intro w0 hown0 hgrow0
  have B0 := ((Below.refl w.heap.size w).alloc (Nat.le_refl _) _).grown hgrow0 (by first | omega | (simp; omega) | simp) (by simp)
  have hsz0 : w.heap.size + 1 ≤ w0.heap.size := by have := hgrow0.size; simp at this; omega
  have q0 : w0.cell? ⟨w.heap.size, 0, none⟩ = some (.int .i64 p) := hgrow0.cell (by simp) (by simp)
  have q1 : w0.cell? ⟨w.heap.size, 1, none⟩ = some (.int .i64 q) := hgrow0.cell (by simp) (by simp)
  clear hgrow0
  go_wp2_with (at_builtin; refine wpList_append_own _ rfl _ _ 25 rfl w.heap.size 29 i0 (.agg #[.int .i64 0, .int .i64 0]) 2 16 Ybgv.underlying25 hi hz0 hz1 hz2 rfl (by decide) _ _ _ rfl (World.ownsRow.alloc hown0 _) ⟨w0.heap.size, 0, none⟩ 1 1 [.int .i64 p, .int .i64 q] rfl rfl (cells_two _ _ _ _) (ones_two _ _) ?c3 ?c4 ?c5 ?_)
  case c3 => unfold maxLen; omega
  case c4 => omega
  case c5 => first | omega | (simp; omega)
  intro v0 w1 hown1 hgrow1 _
  have E1 : EntB w1 w.heap.size v0 [(p, q)] := hown1
  have B1 : Below w.heap.size w w1 := (B0.alloc (by omega) _).grown hgrow1 (by first | omega | (simp; omega)) (fun q hq => (World.ownsRow.lt hown0 q hq).1)
  clear hown0 hown1 hgrow1 B0 q0 q1
  go_wp2
  go_loopw [5, 6] (fun o i wr => ∃ k : Nat, k ≤ m.length ∧ i = .int .i64 k ∧ EntB wr w.heap.size o ((p, q) :: m.take k) ∧ Below w.heap.size w wr) (fun _ i _ => m.length - (intOf i).toNat)
  case atStart => exact ⟨0, Nat.zero_le _, rfl, by rw [List.take_zero]; exact E1, B1⟩
  case round =>
    clear E1 B1
    obtain ⟨k, hk, rfl, hown, hb⟩ := hrel
    by_cases hlt : k < m.length
    · have hlt' : (k : Int) < (m.length : Int) := by omega
      obtain rfl := ha (by omega)
      have hbw := hbl (by omega)
      obtain ⟨e, he⟩ : ∃ e, m[k]? = some e := ⟨m[k], by simp [hlt]⟩
      obtain ⟨g1, g2⟩ := H.out.cells he
      have g1' : wr.cell? ⟨b, k * 2, none⟩ = some (.int .i64 e.1) := (hb.cell (p := ⟨b, k * 2, none⟩) hbw).trans g1
      have g2' : wr.cell? ⟨b, k * 2 + 1, none⟩ = some (.int .i64 e.2) := (hb.cell (p := ⟨b, k * 2 + 1, none⟩) hbw).trans g2
      clear g1 g2
      have hws := hb.size
      have hle : (m.take k).length ≤ m.length := by simp; omega
      have HS : Hid ((p, q) :: m.take (k + 1) = ((p, q) :: m.take k) ++ [e]) := by unfold Hid; rw [take_step m k e he]; rfl
      clear he
      go_wp2_with (at_builtin; refine wpList_append_own _ rfl _ _ 25 rfl w.heap.size 29 i0 (.agg #[.int .i64 0, .int .i64 0]) 2 16 Ybgv.underlying25 hi hz0 hz1 hz2 rfl (by decide) _ _ _ rfl (World.ownsRow.alloc hown _) ⟨wr.heap.size, 0, none⟩ 1 1 [.int .i64 e.1, .int .i64 e.2] rfl rfl (cells_two _ _ _ _) (ones_two _ _) ?c3 ?c4 ?c5 ?_)
      case c3 => unfold maxLen; omega
      case c4 => omega
      case c5 => first | omega | (simp; omega)
      intro v' w1 hown' hgrow _
      have R1 : EntB w1 w.heap.size v' ((p, q) :: m.take (k + 1)) := by
        rw [HS.out]
        exact EntB.snoc hown' (by first | omega | (simp; omega) | (simp; done))
      have R2 : Below w.heap.size w w1 := (hb.alloc (by omega) _).grown hgrow (by first | omega | (simp; omega)) (fun q hq => (World.ownsRow.lt hown q hq).1)
      clear hown' hgrow hown hb g1' g2'
      go_wp2
      go_roundw
      case rel => exact ⟨k + 1, by omega, by go_num, R1, R2⟩
      case measure => simp [intOf]; omega
    · have hlt' : ¬ ((k : Int) < (m.length : Int)) := by omega
      have hke : m.take k = m := List.take_of_length_le (by omega)
      rw [hke] at hown
      clear hke
      have R1 := hide hown
      have R2 := hide hb
      clear hown hb
      go_wp2
      go_ret
      exact ⟨_, rfl, R1.out, R2.out⟩

set_option maxHeartbeats 400000 in
theorem front53_any {w : World} {base : Nat} {v : Value} {m : List (Int × Int)} (p q : Int) (h : EntB w base v m) (hm : m.length ≤ 100000) :
    Calls Ybgv.prog 53 #[.agg #[.int .i64 p, .int .i64 q], v] w fun e w' => ∃ v', e = .returned v' ∧ EntB w' w.heap.size v' ((p, q) :: m) ∧ Below w.heap.size w w' := by
  obtain ⟨a, cap, b, rfl, ha, _, _, _⟩ := h.form
  obtain ⟨i0, hi, hz0, hz1, hz2⟩ := info_parts Ybgv.info29
  have hbl : 0 < m.length → b < w.heap.size := fun hp => by obtain rfl := ha hp; exact (h.lt b rfl).2
  have H := hide h
  clear h
  go_enter Ybgv.func53, Ybgv.ntmps53
  go_wp2_with (at_make; refine wpList_make_own _ rfl _ _ 25 rfl w.heap.size 29 i0 (.agg #[.int .i64 0, .int .i64 0]) 2 Ybgv.underlying25 hi hz0 hz1 _ _ _ (m.length + 1) rfl rfl (by omega) ?b1 ?b2 ?b3 ?_)
  case b1 => rw [hz2]; omega
  case b2 => unfold maxLen; omega
  case b3 => first | omega | (simp; omega) | simp
  intro w0 hown0 hgrow0
  have B0 := ((Below.refl w.heap.size w).alloc (Nat.le_refl _) _).grown hgrow0 (by first | omega | (simp; omega) | simp) (by simp)
  have hsz0 : w.heap.size + 1 ≤ w0.heap.size := by have := hgrow0.size; simp at this; omega
  have q0 : w0.cell? ⟨w.heap.size, 0, none⟩ = some (.int .i64 p) := hgrow0.cell (by simp) (by simp)
  have q1 : w0.cell? ⟨w.heap.size, 1, none⟩ = some (.int .i64 q) := hgrow0.cell (by simp) (by simp)
  clear hgrow0
  go_wp2_with (at_builtin; refine wpList_append_own _ rfl _ _ 25 rfl w.heap.size 29 i0 (.agg #[.int .i64 0, .int .i64 0]) 2 16 Ybgv.underlying25 hi hz0 hz1 hz2 rfl (by decide) _ _ _ rfl (World.ownsRow.alloc hown0 _) ⟨w0.heap.size, 0, none⟩ 1 1 [.int .i64 p, .int .i64 q] rfl rfl (cells_two _ _ _ _) (ones_two _ _) ?c3 ?c4 ?c5 ?_)
  case c3 => unfold maxLen; omega
  case c4 => omega
  case c5 => first | omega | (simp; omega)
  intro v0 w1 hown1 hgrow1 _
  have E1 : EntB w1 w.heap.size v0 [(p, q)] := hown1
  have B1 : Below w.heap.size w w1 := (B0.alloc (by omega) _).grown hgrow1 (by first | omega | (simp; omega)) (fun q hq => (World.ownsRow.lt hown0 q hq).1)
  clear hown0 hown1 hgrow1 B0 q0 q1
  go_wp2
  go_loopw [5, 6] (fun o i wr => ∃ k : Nat, k ≤ m.length ∧ i = .int .i64 k ∧ EntB wr w.heap.size o ((p, q) :: m.take k) ∧ Below w.heap.size w wr) (fun _ i _ => m.length - (intOf i).toNat)
  case atStart => exact ⟨0, Nat.zero_le _, rfl, by rw [List.take_zero]; exact E1, B1⟩
  case round =>
    clear E1 B1
    obtain ⟨k, hk, rfl, hown, hb⟩ := hrel
    by_cases hlt : k < m.length
    · have hlt' : (k : Int) < (m.length : Int) := by omega
      obtain rfl := ha (by omega)
      have hbw := hbl (by omega)
      obtain ⟨e, he⟩ : ∃ e, m[k]? = some e := ⟨m[k], by simp [hlt]⟩
      obtain ⟨g1, g2⟩ := H.out.cells he
      have g1' : wr.cell? ⟨b, k * 2, none⟩ = some (.int .i64 e.1) := (hb.cell (p := ⟨b, k * 2, none⟩) hbw).trans g1
      have g2' : wr.cell? ⟨b, k * 2 + 1, none⟩ = some (.int .i64 e.2) := (hb.cell (p := ⟨b, k * 2 + 1, none⟩) hbw).trans g2
      clear g1 g2
      have hws := hb.size
      have hle : (m.take k).length ≤ m.length := by simp; omega
      have HS : Hid ((p, q) :: m.take (k + 1) = ((p, q) :: m.take k) ++ [e]) := by unfold Hid; rw [take_step m k e he]; rfl
      clear he
      go_wp2_with (at_builtin; refine wpList_append_own _ rfl _ _ 25 rfl w.heap.size 29 i0 (.agg #[.int .i64 0, .int .i64 0]) 2 16 Ybgv.underlying25 hi hz0 hz1 hz2 rfl (by decide) _ _ _ rfl (World.ownsRow.alloc hown _) ⟨wr.heap.size, 0, none⟩ 1 1 [.int .i64 e.1, .int .i64 e.2] rfl rfl (cells_two _ _ _ _) (ones_two _ _) ?c3 ?c4 ?c5 ?_)
      case c3 => unfold maxLen; omega
      case c4 => omega
      case c5 => first | omega | (simp; omega)
      intro v' w1 hown' hgrow _
      have R1 : EntB w1 w.heap.size v' ((p, q) :: m.take (k + 1)) := by
        rw [HS.out]
        exact EntB.snoc hown' (by first | omega | (simp; omega) | (simp; done))
      have R2 : Below w.heap.size w w1 := (hb.alloc (by omega) _).grown hgrow (by first | omega | (simp; omega)) (fun q hq => (World.ownsRow.lt hown q hq).1)
      clear hown' hgrow hown hb g1' g2'
      go_wp2
      go_roundw
      case rel => exact ⟨k + 1, by omega, by go_num, R1, R2⟩
      case measure => simp [intOf]; omega
    · have hlt' : ¬ ((k : Int) < (m.length : Int)) := by omega
      have hke : m.take k = m := List.take_of_length_le (by omega)
      rw [hke] at hown
      clear hke
      have R1 := hide hown
      have R2 := hide hb
      clear hown hb
      go_wp2
      go_ret
      exact ⟨_, rfl, R1.out, R2.out⟩

end Go.Proofs.Ymwhbg
