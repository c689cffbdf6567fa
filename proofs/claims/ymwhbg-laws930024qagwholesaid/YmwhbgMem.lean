/-
  The cache and the model's slices in memory.
-/
import Derived.WalkKit
import Derived.Test.YmwhbgPlain
namespace Go.Proofs.Ymwhbg
open Go.RowKit
set_option linter.unusedVariables false
set_option linter.unusedSimpArgs false

/-- Nothing turned but blocks of S and new ones. -/
structure Fr (S : Nat → Prop) (w w' : World) : Prop where
  os : w'.os = w.os
  tape : w'.tape = w.tape
  output : w'.output = w.output
  size : w.heap.size ≤ w'.heap.size
  block : ∀ k, k < w.heap.size → ¬ S k → w'.heap[k]? = w.heap[k]?

theorem Fr.refl (S : Nat → Prop) (w : World) : Fr S w w := ⟨rfl, rfl, rfl, Nat.le_refl _, fun _ _ _ => rfl⟩
theorem Fr.trans {S : Nat → Prop} {a b c : World} (h : Fr S a b) (k : Fr S b c) : Fr S a c :=
  ⟨k.os.trans h.os, k.tape.trans h.tape, k.output.trans h.output, Nat.le_trans h.size k.size,
    fun i hi hn => (k.block i (Nat.lt_of_lt_of_le hi h.size) hn).trans (h.block i hi hn)⟩
theorem Fr.trans' {S T : Nat → Prop} {a b c : World} (h : Fr S a b) (k : Fr T b c) (hs : ∀ i, i < a.heap.size → T i → S i) : Fr S a c :=
  ⟨k.os.trans h.os, k.tape.trans h.tape, k.output.trans h.output, Nat.le_trans h.size k.size,
    fun i hi hn => (k.block i (Nat.lt_of_lt_of_le hi h.size) (fun t => hn (hs i hi t))).trans (h.block i hi hn)⟩
theorem Fr.mono {S T : Nat → Prop} {a b : World} (h : Fr S a b) (hs : ∀ k, k < a.heap.size → S k → T k) : Fr T a b :=
  ⟨h.os, h.tape, h.output, h.size, fun i hi hn => h.block i hi (fun s => hn (hs i hi s))⟩
theorem Fr.drew {S : Nat → Prop} {a w : World} (h : Fr S a w) : Fr S a w.drew := ⟨h.os, h.tape, h.output, h.size, h.block⟩
theorem Fr.alloc {S : Nat → Prop} {a w : World} (h : Fr S a w) (o : Obj) : Fr S a (w.alloc o) :=
  ⟨h.os, h.tape, h.output, by have := h.size; simp; omega, fun k hk hn => (Below.heap_alloc _ _ _ (Nat.lt_of_lt_of_le hk h.size)).trans (h.block k hk hn)⟩
theorem Fr.setCell {S : Nat → Prop} {a w : World} (h : Fr S a w) {p : Addr} (hp : p.block < a.heap.size → S p.block) (u : Value) : Fr S a (w.setCell p u) :=
  ⟨h.os, h.tape, h.output, by have := h.size; simp; omega, fun k hk hn => (Below.heap_setCell _ _ _ _ (fun e => hn (by rw [e]; exact hp (by rw [← e]; exact hk)))).trans (h.block k hk hn)⟩
theorem Fr.of_below {w w' : World} (h : Below w.heap.size w w') (S : Nat → Prop) : Fr S w w' :=
  ⟨h.os, h.tape, h.output, h.size, fun k hk _ => h.block k hk⟩
theorem Fr.of_grown {w w' : World} {row : Option Nat} (h : w.grownBy w' row) : Fr (fun k => row = some k) w w' :=
  ⟨h.os, h.tape, h.output, h.size, fun k hk hn => h.block k hk (fun e => hn e.symm)⟩
theorem Fr.grown {S : Nat → Prop} {a w w' : World} {row : Option Nat} (h : Fr S a w) (g : w.grownBy w' row) (hr : ∀ k, k < a.heap.size → row = some k → S k) : Fr S a w' :=
  h.trans' (Fr.of_grown g) hr
/-- Below B, the old blocks. -/
theorem Fr.toBelow {S : Nat → Prop} {B : Nat} {w w' : World} (h : Fr S w w') (hB : B ≤ w.heap.size) (hs : ∀ k, S k → B ≤ k) : Below B w w' :=
  ⟨h.os, h.tape, h.output, h.size, fun k hk => h.block k (by omega) (fun s => by have := hs k s; omega)⟩
theorem Fr.cell {S : Nat → Prop} {w w' : World} (h : Fr S w w') {p : Addr} (hp : p.block < w.heap.size) (hs : ¬ S p.block) : w'.cell? p = w.cell? p := World.cell?_of_block (w := w) (h.block p.block hp hs)
theorem Fr.frozen {S : Nat → Prop} {w w' : World} (h : Fr S w w') {p : Addr} (hp : p.block < w.heap.size) (hs : ¬ S p.block) : w'.frozen? p = w.frozen? p := World.frozen?_of_block (w := w) (h.block p.block hp hs)

theorem ownsRow_heap {w w' : World} {base : Nat} {e : TypeId} {size : Nat} {v : Value} {n : Nat} {xs : List Value} (h : w.ownsRow base e size v n xs)
    (hk : ∀ k, v.ownBlock = some k → w'.heap[k]? = w.heap[k]?) : w'.ownsRow base e size v n xs := by
  refine ⟨h.1, ?_⟩
  rcases h.2 with hn | ⟨g, cap, cur, rfl, hb, hgg, rest⟩
  · exact .inl hn
  · exact .inr ⟨g, cap, cur, rfl, hb, by rw [hk g rfl]; exact hgg, rest⟩

/-- The slots: four cells each. -/
def Nodes (w : World) (base : Nat) (nv : Value) (n : Nat) (K V P X : Nat → Int) : Prop :=
  ∃ xs : List Value, w.ownsRow base 42 4 nv n xs ∧ ∀ j, j < n → xs[j * 4]? = some (.int .i64 (K j)) ∧ xs[j * 4 + 1]? = some (.int .i64 (V j)) ∧ xs[j * 4 + 2]? = some (.int .i64 (P j)) ∧ xs[j * 4 + 3]? = some (.int .i64 (X j))

theorem Nodes.heap {w w' : World} {base : Nat} {nv : Value} {n : Nat} {K V P X : Nat → Int} (h : Nodes w base nv n K V P X)
    (hk : ∀ k, nv.ownBlock = some k → w'.heap[k]? = w.heap[k]?) : Nodes w' base nv n K V P X := by
  obtain ⟨xs, h1, h2⟩ := h
  exact ⟨xs, ownsRow_heap h1 hk, h2⟩
theorem Nodes.lt {w : World} {base : Nat} {nv : Value} {n : Nat} {K V P X : Nat → Int} (h : Nodes w base nv n K V P X) :
    ∀ k, nv.ownBlock = some k → base ≤ k ∧ k < w.heap.size := by
  obtain ⟨xs, h1, h2⟩ := h
  exact h1.lt

/-- What the value of the slots' slice looks like. -/
theorem Nodes.form {w : World} {base : Nat} {nv : Value} {n : Nat} {K V P X : Nat → Int} (h : Nodes w base nv n K V P X) :
    ∃ a cap nb, nv = .slice a n cap ∧ (0 < n → a = some ⟨nb, 0, none⟩) ∧ (a = none → n = 0 ∧ cap = 0) ∧ (a ≠ none → a = some ⟨nb, 0, none⟩) := by
  obtain ⟨xs, h1, h2⟩ := h
  rcases h1.2 with ⟨rfl, rfl⟩ | ⟨g, cap, cur, rfl, _⟩
  · exact ⟨none, 0, 0, rfl, by simp, by simp, by simp⟩
  · exact ⟨_, cap, g, rfl, by simp, by simp, by simp⟩

section
variable {w : World} {base : Nat} {nb n cap : Nat} {K V P X : Nat → Int}
theorem Nodes.cells (h : Nodes w base (.slice (some ⟨nb, 0, none⟩) n cap) n K V P X) {j : Nat} (hj : j < n) :
    w.cell? ⟨nb, j * 4, none⟩ = some (.int .i64 (K j)) ∧ w.cell? ⟨nb, j * 4 + 1, none⟩ = some (.int .i64 (V j)) ∧ w.cell? ⟨nb, j * 4 + 2, none⟩ = some (.int .i64 (P j)) ∧ w.cell? ⟨nb, j * 4 + 3, none⟩ = some (.int .i64 (X j)) := by
  obtain ⟨xs, h1, h2⟩ := h
  obtain ⟨a, b, c, d⟩ := h2 j hj
  refine ⟨?_, ?_, ?_, ?_⟩
  · rw [h1.cellAt _ (by omega), a]
  · rw [h1.cellAt _ (by omega), b]
  · rw [h1.cellAt _ (by omega), c]
  · rw [h1.cellAt _ (by omega), d]
theorem Nodes.frozen (h : Nodes w base (.slice (some ⟨nb, 0, none⟩) n cap) n K V P X) (j : Nat) : w.frozen? ⟨nb, j, none⟩ = false := by
  obtain ⟨xs, h1, h2⟩ := h
  exact h1.frozenAt j

theorem Nodes.setK (h : Nodes w base (.slice (some ⟨nb, 0, none⟩) n cap) n K V P X) (i : Nat) (hi : i < n) (x : Int) :
    Nodes (w.setCell ⟨nb, i * 4, none⟩ (.int .i64 x)) base (.slice (some ⟨nb, 0, none⟩) n cap) n (upd K i x) V P X := by
  obtain ⟨xs, h1, h2⟩ := h
  have hl := h1.1
  refine ⟨xs.set (i * 4) (.int .i64 x), (h1.stored _ _).1, fun j hj => ?_⟩
  obtain ⟨a, b, c, d⟩ := h2 j hj
  by_cases e : j = i
  · subst e; simp only [List.getElem?_set, upd_same]
    rw [if_pos trivial, if_pos (by omega), if_neg (by omega), if_neg (by omega), if_neg (by omega)]; exact ⟨rfl, b, c, d⟩
  · simp only [List.getElem?_set, upd_other _ _ _ _ e]
    rw [if_neg (by omega), if_neg (by omega), if_neg (by omega), if_neg (by omega)]; exact ⟨a, b, c, d⟩
theorem Nodes.setV (h : Nodes w base (.slice (some ⟨nb, 0, none⟩) n cap) n K V P X) (i : Nat) (hi : i < n) (x : Int) :
    Nodes (w.setCell ⟨nb, i * 4 + 1, none⟩ (.int .i64 x)) base (.slice (some ⟨nb, 0, none⟩) n cap) n K (upd V i x) P X := by
  obtain ⟨xs, h1, h2⟩ := h
  have hl := h1.1
  refine ⟨xs.set (i * 4 + 1) (.int .i64 x), (h1.stored _ _).1, fun j hj => ?_⟩
  obtain ⟨a, b, c, d⟩ := h2 j hj
  by_cases e : j = i
  · subst e; simp only [List.getElem?_set, upd_same]
    rw [if_neg (by omega), if_pos trivial, if_pos (by omega), if_neg (by omega), if_neg (by omega)]; exact ⟨a, rfl, c, d⟩
  · simp only [List.getElem?_set, upd_other _ _ _ _ e]
    rw [if_neg (by omega), if_neg (by omega), if_neg (by omega), if_neg (by omega)]; exact ⟨a, b, c, d⟩
theorem Nodes.setP (h : Nodes w base (.slice (some ⟨nb, 0, none⟩) n cap) n K V P X) (i : Nat) (hi : i < n) (x : Int) :
    Nodes (w.setCell ⟨nb, i * 4 + 2, none⟩ (.int .i64 x)) base (.slice (some ⟨nb, 0, none⟩) n cap) n K V (upd P i x) X := by
  obtain ⟨xs, h1, h2⟩ := h
  have hl := h1.1
  refine ⟨xs.set (i * 4 + 2) (.int .i64 x), (h1.stored _ _).1, fun j hj => ?_⟩
  obtain ⟨a, b, c, d⟩ := h2 j hj
  by_cases e : j = i
  · subst e; simp only [List.getElem?_set, upd_same]
    rw [if_neg (by omega), if_neg (by omega), if_pos trivial, if_pos (by omega), if_neg (by omega)]; exact ⟨a, b, rfl, d⟩
  · simp only [List.getElem?_set, upd_other _ _ _ _ e]
    rw [if_neg (by omega), if_neg (by omega), if_neg (by omega), if_neg (by omega)]; exact ⟨a, b, c, d⟩
theorem Nodes.setX (h : Nodes w base (.slice (some ⟨nb, 0, none⟩) n cap) n K V P X) (i : Nat) (hi : i < n) (x : Int) :
    Nodes (w.setCell ⟨nb, i * 4 + 3, none⟩ (.int .i64 x)) base (.slice (some ⟨nb, 0, none⟩) n cap) n K V P (upd X i x) := by
  obtain ⟨xs, h1, h2⟩ := h
  have hl := h1.1
  refine ⟨xs.set (i * 4 + 3) (.int .i64 x), (h1.stored _ _).1, fun j hj => ?_⟩
  obtain ⟨a, b, c, d⟩ := h2 j hj
  by_cases e : j = i
  · subst e; simp only [List.getElem?_set, upd_same]
    rw [if_neg (by omega), if_neg (by omega), if_neg (by omega), if_pos trivial, if_pos (by omega)]; exact ⟨a, b, c, rfl⟩
  · simp only [List.getElem?_set, upd_other _ _ _ _ e]
    rw [if_neg (by omega), if_neg (by omega), if_neg (by omega), if_neg (by omega)]; exact ⟨a, b, c, d⟩
end

/-- The cache in memory. -/
structure CMem (w : World) (base cb : Nat) (nv : Value) (n : Nat) (K V P X : Nat → Int) (h t f sz cp : Int) : Prop where
  c0 : w.cell? ⟨cb, 0, none⟩ = some nv
  c1 : w.cell? ⟨cb, 1, none⟩ = some (.int .i64 h)
  c2 : w.cell? ⟨cb, 2, none⟩ = some (.int .i64 t)
  c3 : w.cell? ⟨cb, 3, none⟩ = some (.int .i64 f)
  c4 : w.cell? ⟨cb, 4, none⟩ = some (.int .i64 sz)
  c5 : w.cell? ⟨cb, 5, none⟩ = some (.int .i64 cp)
  fz : ∀ o, w.frozen? ⟨cb, o, none⟩ = false
  row : Nodes w base nv n K V P X
  apart : nv.ownBlock ≠ some cb
  bc : base ≤ cb

/-- The blocks that the cache holds. -/
def own (cb : Nat) (nv : Value) (k : Nat) : Prop := k = cb ∨ nv.ownBlock = some k

section
variable {w w' : World} {base cb : Nat} {nv : Value} {n : Nat} {K V P X : Nat → Int} {h t f sz cp : Int}
theorem CMem.lt (c : CMem w base cb nv n K V P X h t f sz cp) : cb < w.heap.size := World.block_lt_of_cell? w ⟨cb, 0, none⟩ c.c0
theorem CMem.own_lt (c : CMem w base cb nv n K V P X h t f sz cp) : ∀ k, own cb nv k → base ≤ k ∧ k < w.heap.size := by
  rintro k (rfl | hk)
  · exact ⟨c.bc, c.lt⟩
  · exact c.row.lt k hk
/-- The cache stands where its blocks stand. -/
theorem CMem.heap (c : CMem w base cb nv n K V P X h t f sz cp) (hk : ∀ k, own cb nv k → w'.heap[k]? = w.heap[k]?) : CMem w' base cb nv n K V P X h t f sz cp := by
  have e : ∀ o, w'.cell? ⟨cb, o, none⟩ = w.cell? ⟨cb, o, none⟩ := fun o => World.cell?_of_block (hk cb (.inl rfl))
  have e' : ∀ o, w'.frozen? ⟨cb, o, none⟩ = w.frozen? ⟨cb, o, none⟩ := fun o => World.frozen?_of_block (hk cb (.inl rfl))
  exact ⟨(e _).trans c.c0, (e _).trans c.c1, (e _).trans c.c2, (e _).trans c.c3, (e _).trans c.c4, (e _).trans c.c5, fun o => (e' _).trans (c.fz o), c.row.heap (fun k h => hk k (.inr h)), c.apart, c.bc⟩
theorem CMem.fr {S : Nat → Prop} (c : CMem w base cb nv n K V P X h t f sz cp) (g : Fr S w w') (hs : ∀ k, own cb nv k → ¬ S k) : CMem w' base cb nv n K V P X h t f sz cp :=
  c.heap (fun k hk => g.block k (c.own_lt k hk).2 (hs k hk))
theorem CMem.below (c : CMem w base cb nv n K V P X h t f sz cp) (g : Below w.heap.size w w') : CMem w' base cb nv n K V P X h t f sz cp :=
  c.heap (fun k hk => g.block k (c.own_lt k hk).2)
theorem CMem.alloc (c : CMem w base cb nv n K V P X h t f sz cp) (o : Obj) : CMem (w.alloc o) base cb nv n K V P X h t f sz cp :=
  c.heap (fun k hk => Below.heap_alloc _ _ _ (c.own_lt k hk).2)
theorem CMem.drew (c : CMem w base cb nv n K V P X h t f sz cp) : CMem w.drew base cb nv n K V P X h t f sz cp := c.heap (fun _ _ => rfl)
theorem CMem.setOther (c : CMem w base cb nv n K V P X h t f sz cp) {p : Addr} (hp : ¬ own cb nv p.block) (u : Value) : CMem (w.setCell p u) base cb nv n K V P X h t f sz cp :=
  c.heap (fun k hk => Below.heap_setCell _ _ _ _ (fun e => hp (e ▸ hk)))

theorem CMem.row_cb (c : CMem w base cb nv n K V P X h t f sz cp) (o : Nat) (u : Value) : Nodes (w.setCell ⟨cb, o, none⟩ u) base nv n K V P X :=
  c.row.heap (fun _ hk => Below.heap_setCell _ _ _ _ (fun e => c.apart (by rw [hk, e])))
theorem cell_put (w : World) (b o q : Nat) (u v : Value) (h : w.cell? ⟨b, o, none⟩ = some v) (v' : Value) (h' : w.cell? ⟨b, q, none⟩ = some v') : (w.setCell ⟨b, o, none⟩ u).cell? ⟨b, q, none⟩ = some (if q = o then u else v') := by
  by_cases e : q = o
  · subst e; rw [if_pos rfl]; exact World.cell?_setCell_same w _ _ h
  · rw [if_neg e, World.cell?_setCell_other]
    · exact h'
    · intro x; injection x with _ x2; exact e x2.symm
theorem CMem.set1 (c : CMem w base cb nv n K V P X h t f sz cp) (x : Int) : CMem (w.setCell ⟨cb, 1, none⟩ (.int .i64 x)) base cb nv n K V P X x t f sz cp :=
  ⟨by simpa using cell_put w cb 1 0 (.int .i64 x) _ c.c1 _ c.c0, by simpa using cell_put w cb 1 1 (.int .i64 x) _ c.c1 _ c.c1, by simpa using cell_put w cb 1 2 (.int .i64 x) _ c.c1 _ c.c2, by simpa using cell_put w cb 1 3 (.int .i64 x) _ c.c1 _ c.c3, by simpa using cell_put w cb 1 4 (.int .i64 x) _ c.c1 _ c.c4, by simpa using cell_put w cb 1 5 (.int .i64 x) _ c.c1 _ c.c5, by simpa using c.fz, c.row_cb _ _, c.apart, c.bc⟩
theorem CMem.set2 (c : CMem w base cb nv n K V P X h t f sz cp) (x : Int) : CMem (w.setCell ⟨cb, 2, none⟩ (.int .i64 x)) base cb nv n K V P X h x f sz cp :=
  ⟨by simpa using cell_put w cb 2 0 (.int .i64 x) _ c.c2 _ c.c0, by simpa using cell_put w cb 2 1 (.int .i64 x) _ c.c2 _ c.c1, by simpa using cell_put w cb 2 2 (.int .i64 x) _ c.c2 _ c.c2, by simpa using cell_put w cb 2 3 (.int .i64 x) _ c.c2 _ c.c3, by simpa using cell_put w cb 2 4 (.int .i64 x) _ c.c2 _ c.c4, by simpa using cell_put w cb 2 5 (.int .i64 x) _ c.c2 _ c.c5, by simpa using c.fz, c.row_cb _ _, c.apart, c.bc⟩
theorem CMem.set3 (c : CMem w base cb nv n K V P X h t f sz cp) (x : Int) : CMem (w.setCell ⟨cb, 3, none⟩ (.int .i64 x)) base cb nv n K V P X h t x sz cp :=
  ⟨by simpa using cell_put w cb 3 0 (.int .i64 x) _ c.c3 _ c.c0, by simpa using cell_put w cb 3 1 (.int .i64 x) _ c.c3 _ c.c1, by simpa using cell_put w cb 3 2 (.int .i64 x) _ c.c3 _ c.c2, by simpa using cell_put w cb 3 3 (.int .i64 x) _ c.c3 _ c.c3, by simpa using cell_put w cb 3 4 (.int .i64 x) _ c.c3 _ c.c4, by simpa using cell_put w cb 3 5 (.int .i64 x) _ c.c3 _ c.c5, by simpa using c.fz, c.row_cb _ _, c.apart, c.bc⟩
theorem CMem.set4 (c : CMem w base cb nv n K V P X h t f sz cp) (x : Int) : CMem (w.setCell ⟨cb, 4, none⟩ (.int .i64 x)) base cb nv n K V P X h t f x cp :=
  ⟨by simpa using cell_put w cb 4 0 (.int .i64 x) _ c.c4 _ c.c0, by simpa using cell_put w cb 4 1 (.int .i64 x) _ c.c4 _ c.c1, by simpa using cell_put w cb 4 2 (.int .i64 x) _ c.c4 _ c.c2, by simpa using cell_put w cb 4 3 (.int .i64 x) _ c.c4 _ c.c3, by simpa using cell_put w cb 4 4 (.int .i64 x) _ c.c4 _ c.c4, by simpa using cell_put w cb 4 5 (.int .i64 x) _ c.c4 _ c.c5, by simpa using c.fz, c.row_cb _ _, c.apart, c.bc⟩
/-- A new row of slots is hung in. -/
theorem CMem.set0 (c : CMem w base cb nv n K V P X h t f sz cp) {nv' : Value} {n' : Nat} {K' V' P' X' : Nat → Int} (r : Nodes w base nv' n' K' V' P' X') (ha : nv'.ownBlock ≠ some cb) :
    CMem (w.setCell ⟨cb, 0, none⟩ nv') base cb nv' n' K' V' P' X' h t f sz cp :=
  ⟨by simpa using cell_put w cb 0 0 nv' _ c.c0 _ c.c0, by simpa using cell_put w cb 0 1 nv' _ c.c0 _ c.c1, by simpa using cell_put w cb 0 2 nv' _ c.c0 _ c.c2, by simpa using cell_put w cb 0 3 nv' _ c.c0 _ c.c3, by simpa using cell_put w cb 0 4 nv' _ c.c0 _ c.c4, by simpa using cell_put w cb 0 5 nv' _ c.c0 _ c.c5, by simpa using c.fz,
    r.heap (fun k hk => Below.heap_setCell _ _ _ _ (fun e => ha (by rw [hk, e]))), ha, c.bc⟩
end

section
variable {w : World} {base cb nb n cap : Nat} {K V P X : Nat → Int} {h t f sz cp : Int}
theorem CMem.ne (c : CMem w base cb (.slice (some ⟨nb, 0, none⟩) n cap) n K V P X h t f sz cp) : nb ≠ cb := fun e => c.apart (by simp [Value.ownBlock, e])
theorem CMem.putRow (c : CMem w base cb (.slice (some ⟨nb, 0, none⟩) n cap) n K V P X h t f sz cp) {K' V' P' X' : Nat → Int} {o : Nat} {u : Value}
    (r : Nodes (w.setCell ⟨nb, o, none⟩ u) base (.slice (some ⟨nb, 0, none⟩) n cap) n K' V' P' X') : CMem (w.setCell ⟨nb, o, none⟩ u) base cb (.slice (some ⟨nb, 0, none⟩) n cap) n K' V' P' X' h t f sz cp := by
  have e : (w.setCell ⟨nb, o, none⟩ u).heap[cb]? = w.heap[cb]? := Below.heap_setCell _ _ _ _ (fun e => c.ne e.symm)
  have e1 : ∀ o', (w.setCell ⟨nb, o, none⟩ u).cell? ⟨cb, o', none⟩ = w.cell? ⟨cb, o', none⟩ := fun o' => World.cell?_of_block e
  exact ⟨(e1 _).trans c.c0, (e1 _).trans c.c1, (e1 _).trans c.c2, (e1 _).trans c.c3, (e1 _).trans c.c4, (e1 _).trans c.c5, by simpa using c.fz, r, c.apart, c.bc⟩
theorem CMem.setK (c : CMem w base cb (.slice (some ⟨nb, 0, none⟩) n cap) n K V P X h t f sz cp) (i : Nat) (hi : i < n) (x : Int) :
    CMem (w.setCell ⟨nb, i * 4, none⟩ (.int .i64 x)) base cb (.slice (some ⟨nb, 0, none⟩) n cap) n (upd K i x) V P X h t f sz cp := c.putRow (c.row.setK i hi x)
theorem CMem.setV (c : CMem w base cb (.slice (some ⟨nb, 0, none⟩) n cap) n K V P X h t f sz cp) (i : Nat) (hi : i < n) (x : Int) :
    CMem (w.setCell ⟨nb, i * 4 + 1, none⟩ (.int .i64 x)) base cb (.slice (some ⟨nb, 0, none⟩) n cap) n K (upd V i x) P X h t f sz cp := c.putRow (c.row.setV i hi x)
theorem CMem.setP (c : CMem w base cb (.slice (some ⟨nb, 0, none⟩) n cap) n K V P X h t f sz cp) (i : Nat) (hi : i < n) (x : Int) :
    CMem (w.setCell ⟨nb, i * 4 + 2, none⟩ (.int .i64 x)) base cb (.slice (some ⟨nb, 0, none⟩) n cap) n K V (upd P i x) X h t f sz cp := c.putRow (c.row.setP i hi x)
theorem CMem.setX (c : CMem w base cb (.slice (some ⟨nb, 0, none⟩) n cap) n K V P X h t f sz cp) (i : Nat) (hi : i < n) (x : Int) :
    CMem (w.setCell ⟨nb, i * 4 + 3, none⟩ (.int .i64 x)) base cb (.slice (some ⟨nb, 0, none⟩) n cap) n K V P (upd X i x) h t f sz cp := c.putRow (c.row.setX i hi x)
end

theorem own_cb (cb : Nat) (nv : Value) : own cb nv cb := .inl rfl
theorem own_nb (cb nb n cap : Nat) : own cb (.slice (some ⟨nb, 0, none⟩) n cap) nb := .inr rfl

theorem Fr.setCb {cb : Nat} {nv : Value} {a w : World} (h : Fr (own cb nv) a w) (o : Nat) (u : Value) : Fr (own cb nv) a (w.setCell ⟨cb, o, none⟩ u) := h.setCell (fun _ => own_cb _ _) u
theorem Fr.setNb {cb nb n cap : Nat} {a w : World} (h : Fr (own cb (.slice (some ⟨nb, 0, none⟩) n cap)) a w) (o : Nat) (u : Value) : Fr (own cb (.slice (some ⟨nb, 0, none⟩) n cap)) a (w.setCell ⟨nb, o, none⟩ u) := h.setCell (fun _ => own_nb _ _ _ _) u
theorem Fr.setNew {S : Nat → Prop} {a w : World} (h : Fr S a w) (b o : Nat) (hb : a.heap.size ≤ b) (u : Value) : Fr S a (w.setCell ⟨b, o, none⟩ u) := h.setCell (p := ⟨b, o, none⟩) (fun hlt => absurd hlt (by simp; omega)) u

theorem ret_int {k : IntKind} {a b : Int} (h : a = b) : Ending.returned (.int k a) = .returned (.int k b) := by rw [h]

end Go.Proofs.Ymwhbg
