/-
  More on the cache and the model side by side.
-/
import Derived.Test.YmwhbgTwo
namespace Go.Proofs.Ymwhbg
open Go.RowKit
set_option linter.unusedVariables false
set_option linter.unusedSimpArgs false

theorem Duo.step {w0 w w' : World} {cb : Nat} {cp : Int} {N : Nat} {mc mm mm' : List (Int × Int)} {v v' : Value} (T : Duo w0 w cb cp N mc v mm) (hb : Below w.heap.size w w') (E' : EntB w' w.heap.size v' mm') : Duo w0 w' cb cp N mc v' mm' := by
  obtain ⟨nv, n, f, I, hn, E, hs, b⟩ := T
  have hsz := b.size
  refine ⟨nv, n, f, I.below hb, hn, E'.down hsz, ?_, b.trans (hb.mono hsz)⟩
  intro k hk ho
  have := (E'.lt k hk).1
  have := (I.own_lt k ho).2
  omega
/-- '[]Entry{}'. -/
theorem EntB.lit0 (w : World) : EntB (w.alloc (.cells #[] 29)) w.heap.size (.slice (some ⟨w.heap.size, 0, none⟩) 0 0) [] := World.ownsRow_lit w #[] 0 (Nat.le_refl _) (by unfold maxLen; omega) rfl
theorem Duo.lit0 {w0 w : World} {cb : Nat} {cp : Int} {N : Nat} {mc mm : List (Int × Int)} {v : Value} (T : Duo w0 w cb cp N mc v mm) : Duo w0 (w.alloc (.cells #[] 29)) cb cp N mc (.slice (some ⟨w.heap.size, 0, none⟩) 0 0) [] :=
  T.step ((Below.refl _ _).alloc (Nat.le_refl _) _) (EntB.lit0 w)
/-- 'm = m[:len(m)-1]'. -/
theorem EntB.cut {w : World} {base b cap : Nat} {m : List (Int × Int)} (h : EntB w base (.slice (some ⟨b, 0, none⟩) m.length cap) m) : EntB w base (.slice (some ⟨b, 0, none⟩) (m.length - 1) cap) m.dropLast := by
  rw [List.dropLast_eq_take]; exact h.take _ (by omega)
theorem Two.cut {w0 w : World} {cb : Nat} {cp : Int} {N b cap : Nat} {mc mm : List (Int × Int)} {ob : Nat} {obj : Obj} (T : Two w0 w cb cp N mc (.slice (some ⟨b, 0, none⟩) mm.length cap) mm ob obj) :
    Two w0 w cb cp N mc (.slice (some ⟨b, 0, none⟩) (mm.length - 1) cap) mm.dropLast ob obj := T.setV T.ent.cut (.inl rfl)
theorem Duo.cut {w0 w : World} {cb : Nat} {cp : Int} {N b cap : Nat} {mc mm : List (Int × Int)} (T : Duo w0 w cb cp N mc (.slice (some ⟨b, 0, none⟩) mm.length cap) mm) :
    Duo w0 w cb cp N mc (.slice (some ⟨b, 0, none⟩) (mm.length - 1) cap) mm.dropLast := by
  obtain ⟨nv, n, f, I, hn, E, hs, bw⟩ := T
  exact ⟨nv, n, f, I, hn, E.cut, fun k hk => hs k hk, bw⟩
theorem eI_neg (m : List (Int × Int)) : eI m (-1) = m := rfl
theorem evOut_snoc (a : List (Int × Int)) (e : Int × Int) : evOut (a ++ [e]) = e := by simp [evOut]
theorem evOut_nil : evOut [] = (0, 0) := rfl
theorem snocE_cases (l : List (Int × Int)) : l = [] ∨ ∃ d a, l = d ++ [a] := by
  rcases List.eq_nil_or_concat l with h | ⟨d, a, h⟩
  · exact .inl h
  · exact .inr ⟨d, a, by simpa using h⟩

end Go.Proofs.Ymwhbg
