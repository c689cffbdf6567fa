/-
  A copy of the slots, made one by one.
-/
import Derived.Test.YmwhbgMem
import Derived.Test.YmwhbgInfo
namespace Go.Proofs.Ymwhbg
open Go.RowKit
set_option linter.unusedVariables false
set_option linter.unusedSimpArgs false

/-- The first k of n slots, copied. -/
def NodesTo (w : World) (base sb n k : Nat) (K V P X : Nat → Int) : Prop :=
  ∃ xs : List Value, w.ownsRow base 42 4 (.slice (some ⟨sb, 0, none⟩) n n) n xs ∧ ∀ j, j < k → xs[j * 4]? = some (.int .i64 (K j)) ∧ xs[j * 4 + 1]? = some (.int .i64 (V j)) ∧ xs[j * 4 + 2]? = some (.int .i64 (P j)) ∧ xs[j * 4 + 3]? = some (.int .i64 (X j))

section
variable {w w' : World} {base sb n k : Nat} {K V P X : Nat → Int}
theorem NodesTo.zero {xs : List Value} (h : w.ownsRow base 42 4 (.slice (some ⟨sb, 0, none⟩) n n) n xs) : NodesTo w base sb n 0 K V P X := ⟨xs, h, fun j hj => by omega⟩
theorem NodesTo.heap (h : NodesTo w base sb n k K V P X) (e : w'.heap[sb]? = w.heap[sb]?) : NodesTo w' base sb n k K V P X := by
  obtain ⟨xs, h1, h2⟩ := h
  exact ⟨xs, ownsRow_heap h1 (fun k hk => by simp [Value.ownBlock] at hk; subst hk; exact e), h2⟩
theorem NodesTo.lt (h : NodesTo w base sb n k K V P X) : base ≤ sb ∧ sb < w.heap.size := by
  obtain ⟨xs, h1, h2⟩ := h
  exact h1.lt sb rfl
theorem NodesTo.frozen (h : NodesTo w base sb n k K V P X) (j : Nat) : w.frozen? ⟨sb, j, none⟩ = false := by
  obtain ⟨xs, h1, h2⟩ := h
  exact h1.frozenAt j
theorem NodesTo.old (h : NodesTo w base sb n k K V P X) {i : Nat} (hi : i < n) :
    ∃ v0 v1 v2 v3, w.cell? ⟨sb, i * 4, none⟩ = some v0 ∧ w.cell? ⟨sb, i * 4 + 1, none⟩ = some v1 ∧ w.cell? ⟨sb, i * 4 + 2, none⟩ = some v2 ∧ w.cell? ⟨sb, i * 4 + 3, none⟩ = some v3 := by
  obtain ⟨xs, h1, h2⟩ := h
  have hl := h1.1
  refine ⟨xs[i * 4]'(by omega), xs[i * 4 + 1]'(by omega), xs[i * 4 + 2]'(by omega), xs[i * 4 + 3]'(by omega), ?_, ?_, ?_, ?_⟩
  all_goals (rw [h1.cellAt _ (by omega)]; simp)
theorem NodesTo.cells (h : NodesTo w base sb n k K V P X) {j : Nat} (hj : j < k) (hkn : k ≤ n) :
    w.cell? ⟨sb, j * 4, none⟩ = some (.int .i64 (K j)) ∧ w.cell? ⟨sb, j * 4 + 1, none⟩ = some (.int .i64 (V j)) ∧ w.cell? ⟨sb, j * 4 + 2, none⟩ = some (.int .i64 (P j)) ∧ w.cell? ⟨sb, j * 4 + 3, none⟩ = some (.int .i64 (X j)) := by
  obtain ⟨xs, h1, h2⟩ := h
  obtain ⟨a, b, c, d⟩ := h2 j hj
  refine ⟨?_, ?_, ?_, ?_⟩
  · rw [h1.cellAt _ (by omega), a]
  · rw [h1.cellAt _ (by omega), b]
  · rw [h1.cellAt _ (by omega), c]
  · rw [h1.cellAt _ (by omega), d]
theorem NodesTo.step (h : NodesTo w base sb n k K V P X) (hk : k < n) :
    NodesTo ((((w.setCell ⟨sb, k * 4, none⟩ (.int .i64 (K k))).setCell ⟨sb, k * 4 + 1, none⟩ (.int .i64 (V k))).setCell ⟨sb, k * 4 + 2, none⟩ (.int .i64 (P k))).setCell ⟨sb, k * 4 + 3, none⟩ (.int .i64 (X k))) base sb n (k + 1) K V P X := by
  obtain ⟨xs, h1, h2⟩ := h
  have hl := h1.1
  refine ⟨_, (((((h1.stored _ _).1).stored _ _).1).stored _ _).1.stored _ _ |>.1, fun j hj => ?_⟩
  simp only [List.getElem?_set, List.length_set]
  by_cases e : j = k
  · subst e
    refine ⟨?_, ?_, ?_, ?_⟩
    · rw [if_neg (by omega), if_neg (by omega), if_neg (by omega), if_pos rfl, if_pos (by omega)]
    · rw [if_neg (by omega), if_neg (by omega), if_pos rfl, if_pos (by omega)]
    · rw [if_neg (by omega), if_pos rfl, if_pos (by omega)]
    · rw [if_pos rfl, if_pos (by omega)]
  · obtain ⟨a, b, c, d⟩ := h2 j (by omega)
    refine ⟨?_, ?_, ?_, ?_⟩
    all_goals (rw [if_neg (by omega), if_neg (by omega), if_neg (by omega), if_neg (by omega)]; assumption)
end

end Go.Proofs.Ymwhbg
