/-
  Plain: the list that a script leaves.
-/
import Derived.Test.YmwhbgRep
namespace Go.Proofs.Ymwhbg
set_option linter.unusedVariables false
set_option linter.unusedSimpArgs false

/-- One step of a script. -/
def stepM (cp o k v : Int) (m : List (Int × Int)) : List (Int × Int) :=
  if o % 4 = 0 then mPut cp m k v else if o % 4 = 1 then mGet m k else if o % 4 = 2 then del m k else m.dropLast
/-- The list behind the first n steps. -/
def runM (cp : Int) (o k v : Nat → Int) : Nat → List (Int × Int)
  | 0 => []
  | n + 1 => stepM cp (o n) (k n) (v n) (runM cp o k v n)

theorem stepM_put {cp o k v : Int} {m : List (Int × Int)} (h : o % 4 = 0) : stepM cp o k v m = mPut cp m k v := if_pos h
theorem stepM_get {cp o k v : Int} {m : List (Int × Int)} (h0 : ¬ o % 4 = 0) (h : o % 4 = 1) : stepM cp o k v m = mGet m k := by
  unfold stepM; rw [if_neg h0, if_pos h]
theorem stepM_rem {cp o k v : Int} {m : List (Int × Int)} (h0 : ¬ o % 4 = 0) (h1 : ¬ o % 4 = 1) (h : o % 4 = 2) : stepM cp o k v m = del m k := by
  unfold stepM; rw [if_neg h0, if_neg h1, if_pos h]
theorem stepM_ev {cp o k v : Int} {m : List (Int × Int)} (h0 : ¬ o % 4 = 0) (h1 : ¬ o % 4 = 1) (h : ¬ o % 4 = 2) : stepM cp o k v m = m.dropLast := by
  unfold stepM; rw [if_neg h0, if_neg h1, if_neg h]
theorem runM_succ (cp : Int) (o k v : Nat → Int) (n : Nat) : runM cp o k v (n + 1) = stepM cp (o n) (k n) (v n) (runM cp o k v n) := rfl

theorem del_le (m : List (Int × Int)) (k : Int) : (del m k).length ≤ m.length := List.length_filter_le _ _
theorem runM_ok (cp : Int) (h : 0 ≤ cp) (o k v : Nat → Int) : ∀ n, distinct (runM cp o k v n) ∧ (runM cp o k v n).length ≤ n ∧ ((runM cp o k v n).length : Int) ≤ cp
  | 0 => by simp [runM, distinct, h]
  | n + 1 => by
    obtain ⟨d, l1, l2⟩ := runM_ok cp h o k v n
    rw [runM_succ]
    unfold stepM
    split
    · obtain ⟨p1, p2⟩ := put_length d l2 (k n) (v n)
      exact ⟨distinct_put d _ _, by omega, p1⟩
    split
    · have := get_length d (k n)
      exact ⟨distinct_get d _, by omega, by rw [this]; exact l2⟩
    split
    · have := del_le (runM cp o k v n) (k n)
      exact ⟨distinct_del d _, by omega, by omega⟩
    · have : (runM cp o k v n).dropLast.length ≤ (runM cp o k v n).length := by simp
      exact ⟨distinct_dropLast d, by omega, by omega⟩

end Go.Proofs.Ymwhbg
