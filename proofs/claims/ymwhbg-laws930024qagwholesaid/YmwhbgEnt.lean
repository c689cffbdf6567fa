/-
  The model's slices of entries in memory.
-/
import Derived.Test.YmwhbgMem
import Derived.Test.YmwhbgApp
namespace Go.Proofs.Ymwhbg
open Go.RowKit
set_option linter.unusedVariables false
set_option linter.unusedSimpArgs false

/-- The cells of a list of entries. -/
def flatE : List (Int × Int) → List Value
  | [] => []
  | e :: m => .int .i64 e.1 :: .int .i64 e.2 :: flatE m

theorem flatE_append (a b : List (Int × Int)) : flatE (a ++ b) = flatE a ++ flatE b := by
  induction a with
  | nil => rfl
  | cons e a ih => simp [flatE, ih]
theorem flatE_length (a : List (Int × Int)) : (flatE a).length = a.length * 2 := by
  induction a with
  | nil => rfl
  | cons e a ih => simp [flatE, ih]; omega
theorem flatE_get (m : List (Int × Int)) (j : Nat) (e : Int × Int) (h : m[j]? = some e) : (flatE m)[j * 2]? = some (.int .i64 e.1) ∧ (flatE m)[j * 2 + 1]? = some (.int .i64 e.2) := by
  induction m generalizing j with
  | nil => simp at h
  | cons x m ih =>
    cases j with
    | zero => simp at h; subst h; simp [flatE]
    | succ j =>
      have := ih j (by simpa using h)
      rw [show (j + 1) * 2 = j * 2 + 2 by omega, show j * 2 + 2 + 1 = j * 2 + 1 + 2 by omega]
      simpa [flatE] using this
theorem flatE_one (u : Value) (m : List (Int × Int)) (h : u ∈ flatE m) : u.oneCell' = true := by
  induction m with
  | nil => simp [flatE] at h
  | cons x m ih =>
    simp [flatE] at h
    rcases h with rfl | rfl | h
    · rfl
    · rfl
    · exact ih h
theorem flatE_take (m : List (Int × Int)) (k : Nat) : flatE (m.take k) = (flatE m).take (k * 2) := by
  induction m generalizing k with
  | nil => simp [flatE]
  | cons x m ih =>
    cases k with
    | zero => simp [flatE]
    | succ k => rw [show (k + 1) * 2 = k * 2 + 2 by omega]; simp [flatE, ih]
theorem flatE_drop (m : List (Int × Int)) (k : Nat) : flatE (m.drop k) = (flatE m).drop (k * 2) := by
  induction m generalizing k with
  | nil => simp [flatE]
  | cons x m ih =>
    cases k with
    | zero => simp [flatE]
    | succ k => rw [show (k + 1) * 2 = k * 2 + 2 by omega]; simp [flatE, ih]

/-- A slice of entries whose block is one from base on. -/
def EntB (w : World) (base : Nat) (v : Value) (m : List (Int × Int)) : Prop := w.ownsRow base 29 2 v m.length (flatE m)

section
variable {w w' : World} {base : Nat} {v : Value} {m : List (Int × Int)}
theorem EntB.down (h : EntB w base v m) {b' : Nat} (hb : b' ≤ base) : EntB w b' v m := ownsRow_base h (fun k hk => Nat.le_trans hb (World.ownsRow.lt h k hk).1)
theorem EntB.lt (h : EntB w base v m) : ∀ k, v.ownBlock = some k → base ≤ k ∧ k < w.heap.size := World.ownsRow.lt h
theorem EntB.heap (h : EntB w base v m) (hk : ∀ k, v.ownBlock = some k → w'.heap[k]? = w.heap[k]?) : EntB w' base v m := ownsRow_heap h hk
theorem EntB.below (h : EntB w base v m) (g : Below w.heap.size w w') : EntB w' base v m := h.heap (fun k hk => g.block k (h.lt k hk).2)
theorem EntB.fr {S : Nat → Prop} (h : EntB w base v m) (g : Fr S w w') (hs : ∀ k, v.ownBlock = some k → ¬ S k) : EntB w' base v m := h.heap (fun k hk => g.block k (h.lt k hk).2 (hs k hk))
theorem EntB.alloc (h : EntB w base v m) (o : Obj) : EntB (w.alloc o) base v m := World.ownsRow.alloc h o
theorem EntB.drew (h : EntB w base v m) : EntB w.drew base v m := h.heap (fun _ _ => rfl)
theorem EntB.setOther (h : EntB w base v m) {p : Addr} (hp : v.ownBlock ≠ some p.block) (u : Value) : EntB (w.setCell p u) base v m :=
  h.heap (fun k hk => Below.heap_setCell _ _ _ _ (fun e => hp (by rw [← e]; exact hk)))
theorem EntB.nil (w : World) (base : Nat) : EntB w base (.slice none 0 0) [] := World.ownsRow_nil w base 29 2
theorem EntB.form (h : EntB w base v m) : ∃ a cap b, v = .slice a m.length cap ∧ (0 < m.length → a = some ⟨b, 0, none⟩) ∧ (a = none → m.length = 0 ∧ cap = 0) ∧ (a ≠ none → a = some ⟨b, 0, none⟩) ∧ m.length ≤ cap := by
  rcases h.2 with ⟨rfl, h0⟩ | ⟨g, cap, cur, rfl, _, _, hl, _⟩
  · exact ⟨none, 0, 0, by rw [h0], by omega, by simp [h0], by simp, by omega⟩
  · exact ⟨_, cap, g, rfl, by simp, by simp, by simp, hl⟩
theorem EntB.cells {b cap : Nat} (h : EntB w base (.slice (some ⟨b, 0, none⟩) m.length cap) m) {j : Nat} {e : Int × Int} (hj : m[j]? = some e) :
    w.cell? ⟨b, j * 2, none⟩ = some (.int .i64 e.1) ∧ w.cell? ⟨b, j * 2 + 1, none⟩ = some (.int .i64 e.2) := by
  obtain ⟨h1, h2⟩ := flatE_get m j e hj
  have hl : j < m.length := (List.getElem?_eq_some_iff.1 hj).1
  exact ⟨by rw [World.ownsRow.cellAt h _ (by omega), h1], by rw [World.ownsRow.cellAt h _ (by omega), h2]⟩
/-- A shorter slice over the same row. -/
theorem EntB.take {b cap : Nat} (h : EntB w base (.slice (some ⟨b, 0, none⟩) m.length cap) m) (k : Nat) (hk : k ≤ m.length) : EntB w base (.slice (some ⟨b, 0, none⟩) k cap) (m.take k) := by
  have hl : (m.take k).length = k := by simp; omega
  refine ⟨by rw [flatE_length], ?_⟩
  rw [hl]
  rcases h.2 with ⟨h', _⟩ | ⟨g, cap', cur, h', hb, hg, hc, hm, hs, ht⟩
  · simp at h'
  · simp only [Value.slice.injEq, Option.some.injEq, Addr.mk.injEq, and_true, true_and] at h'
    obtain ⟨rfl, rfl⟩ := h'
    refine .inr ⟨_, _, cur, rfl, hb, hg, by omega, hm, hs, ?_⟩
    rw [flatE_take, ← ht, List.take_take]
    congr 1
    omega
end

/-- m without the entry at j; m itself where j is below nought. -/
def eI (m : List (Int × Int)) (j : Int) : List (Int × Int) := if j < 0 then m else m.eraseIdx j.toNat
theorem eI_hit (m : List (Int × Int)) (k : Nat) : eI (m.take (k + 1)) (k : Int) = eI (m.take k) (k : Int) := by
  have h : ¬ ((k : Int) < 0) := by omega
  simp only [eI, if_neg h, Int.toNat_natCast]
  rw [List.eraseIdx_of_length_le (l := m.take k) (by simp; omega)]
  by_cases hk : k < m.length
  · rw [List.take_succ_eq_append_getElem hk, List.eraseIdx_append_of_length_le (by simp; omega)]
    simp [Nat.min_eq_left (Nat.le_of_lt hk)]
  · rw [List.take_of_length_le (by omega), List.take_of_length_le (by omega), List.eraseIdx_of_length_le (by omega)]
theorem eI_miss (m : List (Int × Int)) (k : Nat) (j : Int) (h : (k : Int) ≠ j) (e : Int × Int) (he : m[k]? = some e) : eI (m.take (k + 1)) j = eI (m.take k) j ++ [e] := by
  obtain ⟨hk, rfl⟩ := List.getElem?_eq_some_iff.1 he
  unfold eI
  rw [List.take_succ_eq_append_getElem hk]
  split
  · rfl
  · by_cases hlt : j.toNat < k
    · rw [List.eraseIdx_append_of_lt_length (by simp; omega)]
    · rw [List.eraseIdx_of_length_le (by simp; omega), List.eraseIdx_of_length_le (by simp; omega)]
theorem eI_length (m : List (Int × Int)) (j : Int) : (eI m j).length ≤ m.length := by
  unfold eI
  split
  · omega
  · rw [List.length_eraseIdx]; split <;> omega

/-- Where the model finds a key. -/
def goIdx (m : List (Int × Int)) (k : Int) : Int := if hasK m k then (m.findIdx fun e => e.1 == k : Nat) else -1
theorem goIdx_miss {m : List (Int × Int)} {k : Int} (h : ∀ x ∈ m, x.1 ≠ k) : goIdx m k = -1 := by
  have : hasK m k = false := by unfold hasK; rw [List.any_eq_false]; intro a ha; simpa using h a ha
  simp [goIdx, this]
theorem goIdx_hit {a b : List (Int × Int)} {e : Int × Int} {k : Int} (h : ∀ x ∈ a, x.1 ≠ k) (he : e.1 = k) : goIdx (a ++ e :: b) k = (a.length : Int) := by
  have h1 : hasK (a ++ e :: b) k = true := by simp [hasK, he]
  have h2 : ∀ a : List (Int × Int), (∀ x ∈ a, x.1 ≠ k) → (a ++ e :: b).findIdx (fun e => e.1 == k) = a.length := by
    intro a
    induction a with
    | nil => intro _; simp [List.findIdx_cons, he]
    | cons y a ih =>
      intro hy
      have h3 := hy y (by simp)
      have h4 := ih (fun x hx => hy x (by simp [hx]))
      have h5 : (y.1 == k) = false := by simpa using h3
      simp [List.findIdx_cons, h4, h5]
  rw [goIdx, if_pos h1, h2 a h]

end Go.Proofs.Ymwhbg
