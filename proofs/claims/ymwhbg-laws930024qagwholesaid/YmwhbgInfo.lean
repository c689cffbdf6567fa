/-
  Closed facts on the program's types.
-/
import Derived.Test.YmwhbgProg
import Derived.WalkKit
import Derived.Test.YmwhbgEnt
namespace Go.Proofs.Ymwhbg
open Go.RowKit
theorem hide {p : Prop} (h : p) : Hid p := h
theorem Ybgv.info29 : (Ybgv.prog.info? 29).map (fun i => (i.zero, i.size, i.bytes)) = some (some (.agg #[.int .i64 0, .int .i64 0]), 2, 16) := by kernel_rfl
theorem Ybgv.info42 : (Ybgv.prog.info? 42).map (fun i => (i.zero, i.size, i.bytes)) = some (some (.agg #[.int .i64 0, .int .i64 0, .int .i64 0, .int .i64 0]), 4, 32) := by kernel_rfl
/-- The one new element, laid in a block of its own. -/
theorem cells_two (w : World) (x y : Value) (t : TypeId) : ∀ j u, [x, y][j]? = some u → (w.alloc (.cells #[x, y] t)).cell? ((⟨w.heap.size, 0, none⟩ : Addr).add j) = some u := by
  intro j u hj
  match j, hj with
  | 0, hj => simp at hj; subst hj; simp [Addr.add]
  | 1, hj => simp at hj; subst hj; simp [Addr.add]
theorem ones_two (a b : Int) : ∀ u ∈ ([.int .i64 a, .int .i64 b] : List Value), u.oneCell' = true := by
  intro u hu; simp at hu; rcases hu with rfl | rfl <;> rfl
theorem EntB.snoc {w : World} {base : Nat} {v : Value} {m : List (Int × Int)} {e : Int × Int} {N : Nat} (h : w.ownsRow base 29 2 v N (flatE m ++ [.int .i64 e.1, .int .i64 e.2])) (hN : N = m.length + 1) : EntB w base v (m ++ [e]) := by
  subst hN
  unfold EntB
  rw [flatE_append, List.length_append]
  exact h
end Go.Proofs.Ymwhbg
