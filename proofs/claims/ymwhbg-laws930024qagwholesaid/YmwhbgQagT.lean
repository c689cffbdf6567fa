/-
  The law QAG: the copy of a cache, the comparison of copies.
-/
import Derived.Test.YmwhbgQagE
import Derived.Test.YmwhbgQadM
namespace Go.Proofs.Ymwhbg
open Go.RowKit
set_option linter.unusedVariables false
set_option linter.unusedSimpArgs false

theorem blk_six {w : World} {b : Nat} {x0 x1 x2 x3 x4 x5 : Value} {t : TypeId} (h : w.heap[b]? = some (.cells #[x0, x1, x2, x3, x4, x5] t)) :
    w.cell? ⟨b, 0, none⟩ = some x0 ∧ w.cell? ⟨b, 1, none⟩ = some x1 ∧ w.cell? ⟨b, 2, none⟩ = some x2 ∧ w.cell? ⟨b, 3, none⟩ = some x3 ∧ w.cell? ⟨b, 4, none⟩ = some x4 ∧ w.cell? ⟨b, 5, none⟩ = some x5 ∧ (∀ i, w.frozen? ⟨b, i, none⟩ = false) := by
  simp [World.cell?, World.frozen?, h]
theorem Nodes.setOther {w : World} {base : Nat} {v : Value} {n : Nat} {K V P X : Nat → Int} (h : Nodes w base v n K V P X) {p : Addr} (hp : v.ownBlock ≠ some p.block) (u : Value) : Nodes (w.setCell p u) base v n K V P X :=
  h.heap (fun k hk => Below.heap_setCell _ _ _ _ (fun e => hp (by rw [← e]; exact hk)))
theorem Nodes.down {w : World} {base b' : Nat} {v : Value} {n : Nat} {K V P X : Nat → Int} (h : Nodes w base v n K V P X) (hb : b' ≤ base) : Nodes w b' v n K V P X := by
  obtain ⟨xs, h1, h2⟩ := h
  exact ⟨xs, ownsRow_base h1 (fun k hk => Nat.le_trans hb (h1.lt k hk).1), h2⟩

theorem take_post {w w4 : World} {N0 : Nat} {v : Value} {n : Nat} {K V P X : Nat → Int} (N : Nodes w4 N0 v n K V P X) (hN : w.heap.size < N0) (B : Below w.heap.size w w4) (x0 x1 x2 x3 x4 x5 : Value) :
    Nodes ((((((w4.setCell ⟨w.heap.size, 0, none⟩ x0).setCell ⟨w.heap.size, 1, none⟩ x1).setCell ⟨w.heap.size, 2, none⟩ x2).setCell ⟨w.heap.size, 3, none⟩ x3).setCell ⟨w.heap.size, 4, none⟩ x4).setCell ⟨w.heap.size, 5, none⟩ x5) w.heap.size v n K V P X ∧
    Below w.heap.size w ((((((w4.setCell ⟨w.heap.size, 0, none⟩ x0).setCell ⟨w.heap.size, 1, none⟩ x1).setCell ⟨w.heap.size, 2, none⟩ x2).setCell ⟨w.heap.size, 3, none⟩ x3).setCell ⟨w.heap.size, 4, none⟩ x4).setCell ⟨w.heap.size, 5, none⟩ x5) := by
  have hne : v.ownBlock ≠ some w.heap.size := fun h => by have := (N.lt _ h).1; omega
  have L := Nat.le_refl w.heap.size
  exact ⟨((((((N.setOther (p := ⟨w.heap.size, 0, none⟩) hne x0).setOther (p := ⟨w.heap.size, 1, none⟩) hne x1).setOther (p := ⟨w.heap.size, 2, none⟩) hne x2).setOther (p := ⟨w.heap.size, 3, none⟩) hne x3).setOther (p := ⟨w.heap.size, 4, none⟩) hne x4).setOther (p := ⟨w.heap.size, 5, none⟩) hne x5).down (by omega),
    (((((B.setCell (p := ⟨w.heap.size, 0, none⟩) L x0).setCell (p := ⟨w.heap.size, 1, none⟩) L x1).setCell (p := ⟨w.heap.size, 2, none⟩) L x2).setCell (p := ⟨w.heap.size, 3, none⟩) L x3).setCell (p := ⟨w.heap.size, 4, none⟩) L x4).setCell (p := ⟨w.heap.size, 5, none⟩) L x5⟩

set_option maxHeartbeats 2000000 in
set_option maxRecDepth 100000 in
theorem take39_any {w : World} {B cb : Nat} {nv : Value} {n : Nat} {K V P X : Nat → Int} {h t f sz cp : Int} (c : CMem w B cb nv n K V P X h t f sz cp) (hn : n ≤ 100000) :
    Calls Ybgv.prog 39 #[.pointer (some ⟨cb, 0, none⟩)] w fun e w' => ∃ v', e = .returned (.agg #[v', .int .i64 h, .int .i64 t, .int .i64 f, .int .i64 sz, .int .i64 cp]) ∧ Nodes w' w.heap.size v' n K V P X ∧ Below w.heap.size w w' := by
  obtain ⟨an, ncap, nb, rfl, _, _, _⟩ := c.row.form
  have c0 := c.c0
  have c1 := c.c1
  have c2 := c.c2
  have c3 := c.c3
  have c4 := c.c4
  have c5 := c.c5
  have hcl := c.lt
  have hne : cb ≠ w.heap.size := by omega
  have hne2 : w.heap.size ≠ cb := by omega
  have HN := hide ((c.row.heap (w' := (w.alloc (.cells #[.slice none 0 0, .int .i64 0, .int .i64 0, .int .i64 0, .int .i64 0, .int .i64 0] 73)).drew) (fun k hk => (Below.heap_alloc _ _ _ (c.row.lt k hk).2))))
  clear c
  go_enter Ybgv.func39, Ybgv.ntmps39
  go_wp2_with fail
  go_region_held3 (fun w' => w'.cell? ⟨cb, 0, none⟩ = some (.slice an n ncap) ∧ w'.cell? ⟨cb, 1, none⟩ = some (.int .i64 h) ∧ w'.cell? ⟨cb, 2, none⟩ = some (.int .i64 t) ∧ w'.cell? ⟨cb, 3, none⟩ = some (.int .i64 f) ∧ w'.cell? ⟨cb, 4, none⟩ = some (.int .i64 sz) ∧ w'.cell? ⟨cb, 5, none⟩ = some (.int .i64 cp)) (go_keep)
    (first
      | (go_at_call 58; refine (clone58_any HN.out ?_).mono ?_; omega; rintro e w4 ⟨v4, rfl, N4, b4⟩
         obtain ⟨a4, cap4, r4, rfl, g1, g2, g3⟩ := N4.form
         clear g1 g2 g3
         have d0 := (b4.cell (p := ⟨cb, 0, none⟩) (by simp; omega)).trans ((World.cell?_of_block (w := w) (Below.heap_alloc _ _ _ hcl)).trans c0)
         have d1 := (b4.cell (p := ⟨cb, 1, none⟩) (by simp; omega)).trans ((World.cell?_of_block (w := w) (Below.heap_alloc _ _ _ hcl)).trans c1)
         have d2 := (b4.cell (p := ⟨cb, 2, none⟩) (by simp; omega)).trans ((World.cell?_of_block (w := w) (Below.heap_alloc _ _ _ hcl)).trans c2)
         have d3 := (b4.cell (p := ⟨cb, 3, none⟩) (by simp; omega)).trans ((World.cell?_of_block (w := w) (Below.heap_alloc _ _ _ hcl)).trans c3)
         have d4 := (b4.cell (p := ⟨cb, 4, none⟩) (by simp; omega)).trans ((World.cell?_of_block (w := w) (Below.heap_alloc _ _ _ hcl)).trans c4)
         have d5 := (b4.cell (p := ⟨cb, 5, none⟩) (by simp; omega)).trans ((World.cell?_of_block (w := w) (Below.heap_alloc _ _ _ hcl)).trans c5)
         obtain ⟨y0, y1, y2, y3, y4, y5, y6⟩ := blk_six ((b4.block w.heap.size (by simp)).trans (heap_alloc_new w _))
         have HN4 := hide N4
         have HB4 := hide (((Below.refl w.heap.size w).alloc (Nat.le_refl _) _).drew.trans (b4.mono (by simp)))
         clear N4 b4))
  have HP := hide (take_post HN4.out (by simp) HB4.out (.slice a4 n cap4) (.int .i64 h) (.int .i64 t) (.int .i64 f) (.int .i64 sz) (.int .i64 cp))
  clear HN4 HB4 HN c0 c1 c2 c3 c4 c5 d0 d1 d2 d3 d4 d5
  go_wp2
  refine bodyPost_ret (v := .agg #[.slice a4 n cap4, .int .i64 h, .int .i64 t, .int .i64 f, .int .i64 sz, .int .i64 cp]) (by simp [results, Ybgv.results39, go_sem]; go_simp) rfl ⟨_, rfl, ?_⟩
  exact HP.out

set_option maxHeartbeats 2000000 in
set_option maxRecDepth 100000 in
theorem same41_any {w : World} {b1 b2 : Nat} {v1 v2 : Value} {n : Nat} {K V P X : Nat → Int} (h t f sz cp : Int) (N1 : Nodes w b1 v1 n K V P X) (N2 : Nodes w b2 v2 n K V P X) (hn : n ≤ 100000) :
    Calls Ybgv.prog 41 #[.agg #[v1, .int .i64 h, .int .i64 t, .int .i64 f, .int .i64 sz, .int .i64 cp], .agg #[v2, .int .i64 h, .int .i64 t, .int .i64 f, .int .i64 sz, .int .i64 cp]] w fun e w' => e = .returned (.bool true) ∧ Below w.heap.size w w' := by
  obtain ⟨a1, cap1, r1, rfl, g1, g2, g3⟩ := N1.form
  obtain ⟨a2, cap2, r2, rfl, g4, g5, g6⟩ := N2.form
  clear g1 g2 g3 g4 g5 g6
  have H1 := hide (N1.heap (w' := (w.alloc (.cells #[.slice a1 n cap1, .int .i64 h, .int .i64 t, .int .i64 f, .int .i64 sz, .int .i64 cp] 73)).alloc (.cells #[.slice a2 n cap2, .int .i64 h, .int .i64 t, .int .i64 f, .int .i64 sz, .int .i64 cp] 73)) (fun k hk => (Below.heap_alloc _ _ _ (by have := (N1.lt k hk).2; simp; omega)).trans (Below.heap_alloc _ _ _ (N1.lt k hk).2)))
  have H2 := hide (N2.heap (w' := (w.alloc (.cells #[.slice a1 n cap1, .int .i64 h, .int .i64 t, .int .i64 f, .int .i64 sz, .int .i64 cp] 73)).alloc (.cells #[.slice a2 n cap2, .int .i64 h, .int .i64 t, .int .i64 f, .int .i64 sz, .int .i64 cp] 73)) (fun k hk => (Below.heap_alloc _ _ _ (by have := (N2.lt k hk).2; simp; omega)).trans (Below.heap_alloc _ _ _ (N2.lt k hk).2)))
  clear N1 N2
  go_enter Ybgv.func41, Ybgv.ntmps41
  go_wp2_with fail
  refine (equal59_any H1.out H2.out hn).mono ?_
  rintro e w4 ⟨rfl, b4⟩
  obtain ⟨y0, y1, y2, y3, y4, y5, y6⟩ := blk_six ((b4.block w.heap.size (by simp; omega)).trans ((Below.heap_alloc _ _ _ (by simp)).trans (heap_alloc_new w _)))
  obtain ⟨z0, z1, z2, z3, z4, z5, z6⟩ := blk_six ((b4.block (w.heap.size + 1) (by simp)).trans (by
    have := heap_alloc_new (w.alloc (.cells #[.slice a1 n cap1, .int .i64 h, .int .i64 t, .int .i64 f, .int .i64 sz, .int .i64 cp] 73)) (.cells #[.slice a2 n cap2, .int .i64 h, .int .i64 t, .int .i64 f, .int .i64 sz, .int .i64 cp] 73)
    rw [World.size_alloc] at this
    exact this))
  have HB := hide ((((Below.refl w.heap.size w).alloc (Nat.le_refl _) _).alloc (by simp) _).trans (b4.mono (by simp; omega)))
  clear b4 H1 H2
  go_wp2
  go_ret
  exact ⟨rfl, HB.out⟩

end Go.Proofs.Ymwhbg
