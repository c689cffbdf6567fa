import Derived.Test.YmwhbgPush
namespace Go.Proofs.Ymwhbg
open Go.RowKit
set_option linter.unusedVariables false
set_option linter.unusedSimpArgs false

set_option maxHeartbeats 400000 in
theorem drop_any {w : World} {base cb : Nat} {nv : Value} {n : Nat} {K V P X : Nat → Int} {h t f sz cp : Int} (i : Nat)
    (c : CMem w base cb nv n K V P X h t f sz cp) (hn : n ≤ 100000) (hi : i < n) (hp : Slot n (P i)) (hx : Slot n (X i)) (s1 : 1 ≤ sz) (s2 : sz ≤ 100000) :
    Calls Ybgv.prog 50 #[.pointer (some ⟨cb, 0, none⟩), .int .i64 i] w fun e w' => e = .returned (.agg #[.int .i64 (K i), .int .i64 (V i)]) ∧
      CMem w' base cb nv n (upd K i 0) (upd V i 0) (upd (updI P (X i) (P i)) i (-1)) (upd (updI X (P i) (X i)) i f) (orI (P i) (X i) h) (orI (X i) (P i) t) i (sz - 1) cp ∧ Fr (own cb nv) w w' := by
  obtain ⟨a, cap, nb, rfl, ha, _, _⟩ := c.row.form
  obtain rfl := ha (by omega)
  have hne := c.ne
  have hne' : cb ≠ nb := fun e => hne e.symm
  have c0 := c.c0
  have hlt := c.lt
  have hltn := (c.row.lt nb rfl).2
  obtain ⟨gk, gv, _, _⟩ := c.row.cells hi
  have C : Hid (CMem w base cb (.slice (some ⟨nb, 0, none⟩) n cap) n K V P X h t f sz cp) := c
  clear c ha
  have hin : (i : Int) < (n : Int) := by omega
  go_enter Ybgv.func50, Ybgv.ntmps50
  go_wp2_with fail
  refine (unlink_any i ((C.out.alloc _).alloc _) hn hi hp hx s1 s2).mono ?_
  rintro e w1 ⟨rfl, c', fr'⟩
  have hs := fr'.size
  simp only [World.size_alloc] at hs
  have ho : ∀ k, w.heap.size ≤ k → ¬ own cb (.slice (some ⟨nb, 0, none⟩) n cap) k := by
    rintro k hk (h | h)
    · omega
    · simp [Value.ownBlock] at h; omega
  have r0 : w1.cell? ⟨w.heap.size, 0, none⟩ = some (.int .i64 0) := (fr'.cell (p := ⟨w.heap.size, 0, none⟩) (by simp; omega) (ho _ (by simp))).trans (by simp [go_sem])
  have r1 : w1.cell? ⟨w.heap.size, 1, none⟩ = some (.int .i64 0) := (fr'.cell (p := ⟨w.heap.size, 1, none⟩) (by simp; omega) (ho _ (by simp))).trans (by simp [go_sem])
  have r2 : w1.cell? ⟨w.heap.size + 1, 0, none⟩ = some (.int .i64 (K i)) := (fr'.cell (p := ⟨w.heap.size + 1, 0, none⟩) (by simp) (ho _ (by simp))).trans (by simp [go_sem])
  have r3 : w1.cell? ⟨w.heap.size + 1, 1, none⟩ = some (.int .i64 (V i)) := (fr'.cell (p := ⟨w.heap.size + 1, 1, none⟩) (by simp) (ho _ (by simp))).trans (by simp [go_sem])
  have r4 : w1.frozen? ⟨w.heap.size, 0, none⟩ = false := (fr'.frozen (p := ⟨w.heap.size, 0, none⟩) (by simp; omega) (ho _ (by simp))).trans (by simp [go_sem])
  have r5 : w1.frozen? ⟨w.heap.size, 1, none⟩ = false := (fr'.frozen (p := ⟨w.heap.size, 1, none⟩) (by simp; omega) (ho _ (by simp))).trans (by simp [go_sem])
  have c0' := c'.c0
  have c3' := c'.c3
  have fz' := c'.fz
  have fn' := c'.row.frozen
  obtain ⟨gk', gv', gp', gx'⟩ := c'.row.cells hi
  have hne2 : cb ≠ w.heap.size := by omega
  have hne3 : nb ≠ w.heap.size := by omega
  have hne4 : cb ≠ w.heap.size + 1 := by omega
  have hne5 : nb ≠ w.heap.size + 1 := by omega
  have C' : Hid (CMem w1 base cb (.slice (some ⟨nb, 0, none⟩) n cap) n K V (updI P (X i) (P i)) (updI X (P i) (X i)) (orI (P i) (X i) h) (orI (X i) (P i) t) f (sz - 1) cp) := c'
  have FR' : Hid (Fr (own cb (.slice (some ⟨nb, 0, none⟩) n cap)) w w1) := ((((Fr.refl _ w).alloc _).alloc _).trans' fr' (fun _ _ h => h))
  have HO : Hid (∀ k, w.heap.size ≤ k → ¬ own cb (.slice (some ⟨nb, 0, none⟩) n cap) k) := ho
  clear c' fr' ho c0 gk gv
  go_wp2
  go_region
  go_wp2
  refine bodyPost_ret (v := .agg #[.int .i64 (K i), .int .i64 (V i)]) (by simp [results, Ybgv.results50, go_sem]; go_simp) rfl ⟨rfl, ?_, ?_⟩
  · exact ((((((((C'.out.setK _ hi _).setV _ hi _).setP _ hi _).setX _ hi _).set3 _).setOther (HO.out _ (Nat.le_refl _)) _).setOther (HO.out _ (Nat.le_refl _)) _)).drew
  · exact ((((((((FR'.out.setNb _ _).setNb _ _).setNb _ _).setNb _ _).setCb _ _).setNew _ _ (Nat.le_refl _) _).setNew _ _ (Nat.le_refl _) _)).drew

end Go.Proofs.Ymwhbg
