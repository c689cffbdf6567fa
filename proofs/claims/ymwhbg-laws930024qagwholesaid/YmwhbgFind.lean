import Derived.Test.YmwhbgProg
import Derived.Test.YmwhbgMem
import Derived.Test.YmwhbgPlain
import Derived.WalkKit
import Derived.WalkSpells
import Derived.WalkLawsBesides
namespace Go.Proofs.Ymwhbg
open Go.RowKit
set_option linter.unusedVariables false
set_option linter.unusedSimpArgs false

set_option maxHeartbeats 400000 in
theorem find_any {w : World} {base cb : Nat} {nv : Value} {n : Nat} {K V P X : Nat → Int} {t f cp : Int} {L : List Nat} (key : Int)
    (c : CMem w base cb nv n K V P X (hd L) t f L.length cp) (hn : n ≤ 100000) (hL : ∀ s ∈ L, s < n) (hl : L.length ≤ n) (hdl : DL P X L) :
    Calls Ybgv.prog 47 #[.pointer (some ⟨cb, 0, none⟩), .int .i64 key] w fun e w' => e = .returned (.int .i64 (slotOf K L key)) ∧ w' = w := by
  obtain ⟨a, cap, nb, rfl, ha, _, _⟩ := c.row.form
  have c0 := c.c0
  have c1 := c.c1
  have c4 := c.c4
  go_enter Ybgv.func47, Ybgv.ntmps47
  go_wp2
  go_loop [5, 6] (fun i m => ∃ A B, L = A ++ B ∧ (∀ s ∈ A, K s ≠ key) ∧ i = .int .i64 (hd B) ∧ m = .int .i64 A.length) (fun _ m => L.length - (intOf m).toNat)
  case atStart => exact ⟨[], L, rfl, by simp, rfl, rfl⟩
  case round =>
    obtain ⟨A, B, hAB, hA, rfl, rfl⟩ := hrel
    cases B with
    | nil =>
      have hlt : ¬ ((A.length : Int) < L.length) := by subst hAB; simp
      have HA : Hid (slotOf K L key = -1) := by subst hAB; rw [List.append_nil]; exact slotOf_miss hA
      clear hAB hdl c ha
      go_wp2
      go_ret
      exact ⟨ret_int HA.out.symm, rfl⟩
    | cons s B =>
      have hlt : (A.length : Int) < L.length := by subst hAB; simp; omega
      have hs : s < n := hL s (by simp [hAB])
      obtain rfl := ha (by omega)
      obtain ⟨h1, _, _, h2⟩ := c.row.cells hs
      have h3 := (hdl A s B hAB).2
      rw [h3] at h2
      have HAB : Hid (L = A ++ s :: B) := hAB
      clear h3 hAB hdl ha c
      rw [hd_cons]
      by_cases he : K s = key
      · have hb : (K s == key) = true := by simp [he]
        have HF : Hid (slotOf K L key = s) := by rw [HAB.out]; exact slotOf_hit hA he
        clear he hA
        go_wp2
        go_ret
        exact ⟨ret_int HF.out.symm, rfl⟩
      · have hb : (K s == key) = false := by simp [he]
        have HA' : Hid (∀ x ∈ A ++ [s], K x ≠ key) := by
          intro x hx
          rcases List.mem_append.1 hx with h | h
          · exact hA x h
          · simp at h; subst h; exact he
        clear he hA
        go_wp2
        go_round
        case rel => exact ⟨A ++ [s], B, by rw [HAB.out]; simp, HA'.out, rfl, by simp⟩
        case measure => simp [intOf]; omega

end Go.Proofs.Ymwhbg
