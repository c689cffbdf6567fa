/-
  What a function of the model hands back: a slice in new memory, or the very slice that it was handed.
-/
import Derived.Test.YmwhbgMore
namespace Go.Proofs.Ymwhbg
open Go.RowKit
set_option linter.unusedVariables false
set_option linter.unusedSimpArgs false

structure Res (w : World) (base : Nat) (v : Value) (w' : World) (v' : Value) (m' : List (Int × Int)) : Prop where
  ent : EntB w' base v' m'
  below : Below w.heap.size w w'
  own : ∀ k, v'.ownBlock = some k → v.ownBlock = some k ∨ w.heap.size ≤ k

theorem Res.fresh {w w' : World} {base : Nat} {v v' : Value} {m' : List (Int × Int)} (hb : base ≤ w.heap.size) (E : EntB w' w.heap.size v' m') (b : Below w.heap.size w w') : Res w base v w' v' m' :=
  ⟨E.down hb, b, fun k hk => .inr (E.lt k hk).1⟩
theorem Res.same {w : World} {base : Nat} {v : Value} {m : List (Int × Int)} (E : EntB w base v m) : Res w base v w v m := ⟨E, Below.refl _ _, fun k hk => .inl hk⟩
theorem Res.to {w w' : World} {base : Nat} {v v' : Value} {m m' : List (Int × Int)} (R : Res w base v w' v' m) (e : m = m') : Res w base v w' v' m' := e ▸ R

theorem Two.res {w0 w w' : World} {cb : Nat} {cp : Int} {N : Nat} {mc mm mm' : List (Int × Int)} {v v' : Value} {ob : Nat} {obj : Obj} (T : Two w0 w cb cp N mc v mm ob obj) (R : Res w w0.heap.size v w' v' mm') : Two w0 w' cb cp N mc v' mm' ob obj := by
  obtain ⟨nv, n, f, I, hn, E, hs, b, h1, h2⟩ := T
  refine ⟨nv, n, f, I.below R.below, hn, R.ent, ?_, b.trans (R.below.mono b.size), ?_, h2⟩
  · intro k hk ho
    rcases R.own k hk with h | h
    · exact hs k h ho
    · have := (I.own_lt k ho).2; omega
  · rw [R.below.block ob (Array.getElem?_eq_some_iff.1 h1).1]; exact h1
theorem Duo.res {w0 w w' : World} {cb : Nat} {cp : Int} {N : Nat} {mc mm mm' : List (Int × Int)} {v v' : Value} (T : Duo w0 w cb cp N mc v mm) (R : Res w w0.heap.size v w' v' mm') : Duo w0 w' cb cp N mc v' mm' := by
  obtain ⟨nv, n, f, I, hn, E, hs, b⟩ := T
  refine ⟨nv, n, f, I.below R.below, hn, R.ent, ?_, b.trans (R.below.mono b.size)⟩
  intro k hk ho
  rcases R.own k hk with h | h
  · exact hs k h ho
  · have := (I.own_lt k ho).2; omega
theorem Duo.dis2 {w0 w : World} {cb : Nat} {cp : Int} {N : Nat} {m : List (Int × Int)} {v : Value} {b : Nat} {ob : Nat} {obj : Obj} (T : Two w0 w cb cp N m v m ob obj) : distinct m := T.dis

end Go.Proofs.Ymwhbg
