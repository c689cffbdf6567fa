/-
  The models' index functions (one text, six functions of one shape).
-/
import Derived.Test.YmwhbgProg
import Derived.Test.YmwhbgEnt
import Derived.WalkKit
import Derived.WalkSpells
import Derived.WalkLawsBesides
namespace Go.Proofs.Ymwhbg
open Go.RowKit
set_option linter.unusedVariables false
set_option linter.unusedSimpArgs false

set_option maxHeartbeats 400000 in
theorem idx12_any {w : World} {base : Nat} {v : Value} {m : List (Int × Int)} (k : Int) (h : EntB w base v m) (hm : m.length ≤ 100000) :
    Calls Ybgv.prog 12 #[v, .int .i64 k] w fun e w' => e = .returned (.int .i64 (goIdx m k)) ∧ w' = w := by
  obtain ⟨a, cap, b, rfl, ha, _, _, _⟩ := h.form
  go_enter Ybgv.func12, Ybgv.ntmps12
  go_wp2
  go_loop [5] (fun i => ∃ A B, m = A ++ B ∧ (∀ s ∈ A, s.1 ≠ k) ∧ i = .int .i64 A.length) (fun i => m.length - (intOf i).toNat)
  case atStart => exact ⟨[], m, rfl, by simp, rfl⟩
  case round =>
    obtain ⟨A, B, hAB, hA, rfl⟩ := hrel
    cases B with
    | nil =>
      have hlt : ¬ ((A.length : Int) < m.length) := by subst hAB; simp
      have HA : Hid (goIdx m k = -1) := by subst hAB; rw [List.append_nil]; exact goIdx_miss hA
      clear hAB h ha
      go_wp2
      go_ret
      exact ⟨ret_int HA.out.symm, rfl⟩
    | cons e B =>
      have hlt : (A.length : Int) < m.length := by subst hAB; simp; omega
      have hlt2 : A.length < m.length := by omega
      obtain rfl := ha (by omega)
      obtain ⟨h1, _⟩ := h.cells (j := A.length) (e := e) (by subst hAB; simp)
      have HAB : Hid (m = A ++ e :: B) := hAB
      clear hAB h ha
      by_cases he : e.1 = k
      · have hb : (e.1 == k) = true := by simp [he]
        have HF : Hid (goIdx m k = A.length) := by rw [HAB.out]; exact goIdx_hit hA he
        clear he hA
        go_wp2
        go_ret
        exact ⟨ret_int HF.out.symm, rfl⟩
      · have hb : (e.1 == k) = false := by simp [he]
        have HA' : Hid (∀ x ∈ A ++ [e], x.1 ≠ k) := by
          intro x hx
          rcases List.mem_append.1 hx with h | h
          · exact hA x h
          · simp at h; subst h; exact he
        clear he hA
        go_wp2
        go_round
        case rel => exact ⟨A ++ [e], B, by rw [HAB.out]; simp, HA'.out, by simp⟩
        case measure => simp [intOf]; omega

set_option maxHeartbeats 400000 in
theorem idx21_any {w : World} {base : Nat} {v : Value} {m : List (Int × Int)} (k : Int) (h : EntB w base v m) (hm : m.length ≤ 100000) :
    Calls Ybgv.prog 21 #[v, .int .i64 k] w fun e w' => e = .returned (.int .i64 (goIdx m k)) ∧ w' = w := by
  obtain ⟨a, cap, b, rfl, ha, _, _, _⟩ := h.form
  go_enter Ybgv.func21, Ybgv.ntmps21
  go_wp2
  go_loop [5] (fun i => ∃ A B, m = A ++ B ∧ (∀ s ∈ A, s.1 ≠ k) ∧ i = .int .i64 A.length) (fun i => m.length - (intOf i).toNat)
  case atStart => exact ⟨[], m, rfl, by simp, rfl⟩
  case round =>
    obtain ⟨A, B, hAB, hA, rfl⟩ := hrel
    cases B with
    | nil =>
      have hlt : ¬ ((A.length : Int) < m.length) := by subst hAB; simp
      have HA : Hid (goIdx m k = -1) := by subst hAB; rw [List.append_nil]; exact goIdx_miss hA
      clear hAB h ha
      go_wp2
      go_ret
      exact ⟨ret_int HA.out.symm, rfl⟩
    | cons e B =>
      have hlt : (A.length : Int) < m.length := by subst hAB; simp; omega
      have hlt2 : A.length < m.length := by omega
      obtain rfl := ha (by omega)
      obtain ⟨h1, _⟩ := h.cells (j := A.length) (e := e) (by subst hAB; simp)
      have HAB : Hid (m = A ++ e :: B) := hAB
      clear hAB h ha
      by_cases he : e.1 = k
      · have hb : (e.1 == k) = true := by simp [he]
        have HF : Hid (goIdx m k = A.length) := by rw [HAB.out]; exact goIdx_hit hA he
        clear he hA
        go_wp2
        go_ret
        exact ⟨ret_int HF.out.symm, rfl⟩
      · have hb : (e.1 == k) = false := by simp [he]
        have HA' : Hid (∀ x ∈ A ++ [e], x.1 ≠ k) := by
          intro x hx
          rcases List.mem_append.1 hx with h | h
          · exact hA x h
          · simp at h; subst h; exact he
        clear he hA
        go_wp2
        go_round
        case rel => exact ⟨A ++ [e], B, by rw [HAB.out]; simp, HA'.out, by simp⟩
        case measure => simp [intOf]; omega

set_option maxHeartbeats 400000 in
theorem idx30_any {w : World} {base : Nat} {v : Value} {m : List (Int × Int)} (k : Int) (h : EntB w base v m) (hm : m.length ≤ 100000) :
    Calls Ybgv.prog 30 #[v, .int .i64 k] w fun e w' => e = .returned (.int .i64 (goIdx m k)) ∧ w' = w := by
  obtain ⟨a, cap, b, rfl, ha, _, _, _⟩ := h.form
  go_enter Ybgv.func30, Ybgv.ntmps30
  go_wp2
  go_loop [5] (fun i => ∃ A B, m = A ++ B ∧ (∀ s ∈ A, s.1 ≠ k) ∧ i = .int .i64 A.length) (fun i => m.length - (intOf i).toNat)
  case atStart => exact ⟨[], m, rfl, by simp, rfl⟩
  case round =>
    obtain ⟨A, B, hAB, hA, rfl⟩ := hrel
    cases B with
    | nil =>
      have hlt : ¬ ((A.length : Int) < m.length) := by subst hAB; simp
      have HA : Hid (goIdx m k = -1) := by subst hAB; rw [List.append_nil]; exact goIdx_miss hA
      clear hAB h ha
      go_wp2
      go_ret
      exact ⟨ret_int HA.out.symm, rfl⟩
    | cons e B =>
      have hlt : (A.length : Int) < m.length := by subst hAB; simp; omega
      have hlt2 : A.length < m.length := by omega
      obtain rfl := ha (by omega)
      obtain ⟨h1, _⟩ := h.cells (j := A.length) (e := e) (by subst hAB; simp)
      have HAB : Hid (m = A ++ e :: B) := hAB
      clear hAB h ha
      by_cases he : e.1 = k
      · have hb : (e.1 == k) = true := by simp [he]
        have HF : Hid (goIdx m k = A.length) := by rw [HAB.out]; exact goIdx_hit hA he
        clear he hA
        go_wp2
        go_ret
        exact ⟨ret_int HF.out.symm, rfl⟩
      · have hb : (e.1 == k) = false := by simp [he]
        have HA' : Hid (∀ x ∈ A ++ [e], x.1 ≠ k) := by
          intro x hx
          rcases List.mem_append.1 hx with h | h
          · exact hA x h
          · simp at h; subst h; exact he
        clear he hA
        go_wp2
        go_round
        case rel => exact ⟨A ++ [e], B, by rw [HAB.out]; simp, HA'.out, by simp⟩
        case measure => simp [intOf]; omega

set_option maxHeartbeats 400000 in
theorem idx43_any {w : World} {base : Nat} {v : Value} {m : List (Int × Int)} (k : Int) (h : EntB w base v m) (hm : m.length ≤ 100000) :
    Calls Ybgv.prog 43 #[v, .int .i64 k] w fun e w' => e = .returned (.int .i64 (goIdx m k)) ∧ w' = w := by
  obtain ⟨a, cap, b, rfl, ha, _, _, _⟩ := h.form
  go_enter Ybgv.func43, Ybgv.ntmps43
  go_wp2
  go_loop [5] (fun i => ∃ A B, m = A ++ B ∧ (∀ s ∈ A, s.1 ≠ k) ∧ i = .int .i64 A.length) (fun i => m.length - (intOf i).toNat)
  case atStart => exact ⟨[], m, rfl, by simp, rfl⟩
  case round =>
    obtain ⟨A, B, hAB, hA, rfl⟩ := hrel
    cases B with
    | nil =>
      have hlt : ¬ ((A.length : Int) < m.length) := by subst hAB; simp
      have HA : Hid (goIdx m k = -1) := by subst hAB; rw [List.append_nil]; exact goIdx_miss hA
      clear hAB h ha
      go_wp2
      go_ret
      exact ⟨ret_int HA.out.symm, rfl⟩
    | cons e B =>
      have hlt : (A.length : Int) < m.length := by subst hAB; simp; omega
      have hlt2 : A.length < m.length := by omega
      obtain rfl := ha (by omega)
      obtain ⟨h1, _⟩ := h.cells (j := A.length) (e := e) (by subst hAB; simp)
      have HAB : Hid (m = A ++ e :: B) := hAB
      clear hAB h ha
      by_cases he : e.1 = k
      · have hb : (e.1 == k) = true := by simp [he]
        have HF : Hid (goIdx m k = A.length) := by rw [HAB.out]; exact goIdx_hit hA he
        clear he hA
        go_wp2
        go_ret
        exact ⟨ret_int HF.out.symm, rfl⟩
      · have hb : (e.1 == k) = false := by simp [he]
        have HA' : Hid (∀ x ∈ A ++ [e], x.1 ≠ k) := by
          intro x hx
          rcases List.mem_append.1 hx with h | h
          · exact hA x h
          · simp at h; subst h; exact he
        clear he hA
        go_wp2
        go_round
        case rel => exact ⟨A ++ [e], B, by rw [HAB.out]; simp, HA'.out, by simp⟩
        case measure => simp [intOf]; omega

set_option maxHeartbeats 400000 in
theorem idx51_any {w : World} {base : Nat} {v : Value} {m : List (Int × Int)} (k : Int) (h : EntB w base v m) (hm : m.length ≤ 100000) :
    Calls Ybgv.prog 51 #[v, .int .i64 k] w fun e w' => e = .returned (.int .i64 (goIdx m k)) ∧ w' = w := by
  obtain ⟨a, cap, b, rfl, ha, _, _, _⟩ := h.form
  go_enter Ybgv.func51, Ybgv.ntmps51
  go_wp2
  go_loop [5] (fun i => ∃ A B, m = A ++ B ∧ (∀ s ∈ A, s.1 ≠ k) ∧ i = .int .i64 A.length) (fun i => m.length - (intOf i).toNat)
  case atStart => exact ⟨[], m, rfl, by simp, rfl⟩
  case round =>
    obtain ⟨A, B, hAB, hA, rfl⟩ := hrel
    cases B with
    | nil =>
      have hlt : ¬ ((A.length : Int) < m.length) := by subst hAB; simp
      have HA : Hid (goIdx m k = -1) := by subst hAB; rw [List.append_nil]; exact goIdx_miss hA
      clear hAB h ha
      go_wp2
      go_ret
      exact ⟨ret_int HA.out.symm, rfl⟩
    | cons e B =>
      have hlt : (A.length : Int) < m.length := by subst hAB; simp; omega
      have hlt2 : A.length < m.length := by omega
      obtain rfl := ha (by omega)
      obtain ⟨h1, _⟩ := h.cells (j := A.length) (e := e) (by subst hAB; simp)
      have HAB : Hid (m = A ++ e :: B) := hAB
      clear hAB h ha
      by_cases he : e.1 = k
      · have hb : (e.1 == k) = true := by simp [he]
        have HF : Hid (goIdx m k = A.length) := by rw [HAB.out]; exact goIdx_hit hA he
        clear he hA
        go_wp2
        go_ret
        exact ⟨ret_int HF.out.symm, rfl⟩
      · have hb : (e.1 == k) = false := by simp [he]
        have HA' : Hid (∀ x ∈ A ++ [e], x.1 ≠ k) := by
          intro x hx
          rcases List.mem_append.1 hx with h | h
          · exact hA x h
          · simp at h; subst h; exact he
        clear he hA
        go_wp2
        go_round
        case rel => exact ⟨A ++ [e], B, by rw [HAB.out]; simp, HA'.out, by simp⟩
        case measure => simp [intOf]; omega

set_option maxHeartbeats 400000 in
theorem idx56_any {w : World} {base : Nat} {v : Value} {m : List (Int × Int)} (k : Int) (h : EntB w base v m) (hm : m.length ≤ 100000) :
    Calls Ybgv.prog 56 #[v, .int .i64 k] w fun e w' => e = .returned (.int .i64 (goIdx m k)) ∧ w' = w := by
  obtain ⟨a, cap, b, rfl, ha, _, _, _⟩ := h.form
  go_enter Ybgv.func56, Ybgv.ntmps56
  go_wp2
  go_loop [5] (fun i => ∃ A B, m = A ++ B ∧ (∀ s ∈ A, s.1 ≠ k) ∧ i = .int .i64 A.length) (fun i => m.length - (intOf i).toNat)
  case atStart => exact ⟨[], m, rfl, by simp, rfl⟩
  case round =>
    obtain ⟨A, B, hAB, hA, rfl⟩ := hrel
    cases B with
    | nil =>
      have hlt : ¬ ((A.length : Int) < m.length) := by subst hAB; simp
      have HA : Hid (goIdx m k = -1) := by subst hAB; rw [List.append_nil]; exact goIdx_miss hA
      clear hAB h ha
      go_wp2
      go_ret
      exact ⟨ret_int HA.out.symm, rfl⟩
    | cons e B =>
      have hlt : (A.length : Int) < m.length := by subst hAB; simp; omega
      have hlt2 : A.length < m.length := by omega
      obtain rfl := ha (by omega)
      obtain ⟨h1, _⟩ := h.cells (j := A.length) (e := e) (by subst hAB; simp)
      have HAB : Hid (m = A ++ e :: B) := hAB
      clear hAB h ha
      by_cases he : e.1 = k
      · have hb : (e.1 == k) = true := by simp [he]
        have HF : Hid (goIdx m k = A.length) := by rw [HAB.out]; exact goIdx_hit hA he
        clear he hA
        go_wp2
        go_ret
        exact ⟨ret_int HF.out.symm, rfl⟩
      · have hb : (e.1 == k) = false := by simp [he]
        have HA' : Hid (∀ x ∈ A ++ [e], x.1 ≠ k) := by
          intro x hx
          rcases List.mem_append.1 hx with h | h
          · exact hA x h
          · simp at h; subst h; exact he
        clear he hA
        go_wp2
        go_round
        case rel => exact ⟨A ++ [e], B, by rw [HAB.out]; simp, HA'.out, by simp⟩
        case measure => simp [intOf]; omega

end Go.Proofs.Ymwhbg
