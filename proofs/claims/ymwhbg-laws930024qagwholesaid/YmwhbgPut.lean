/-
  The contract of Put.
-/
import Derived.Test.YmwhbgOps
import Derived.Deep.QuietTactic
import Derived.BigQuiet
namespace Go.Proofs.Ymwhbg
open Go.RowKit
set_option linter.unusedVariables false
set_option linter.unusedSimpArgs false

/-- What Put promises. -/
def PutPost (w : World) (B cb : Nat) (nv : Value) (n : Nat) (cp : Int) (m : List (Int × Int)) (k v : Int) (e : Ending) (w' : World) : Prop :=
  e = .returned (.tuple #[.agg #[.int .i64 (pOut cp m k v).1.1, .int .i64 (pOut cp m k v).1.2], .bool (pOut cp m k v).2]) ∧
    (∃ nv' n' f', Inv w' B cb nv' n' f' cp (mPut cp m k v) ∧ n' ≤ n + 1 ∧ ∀ j, nv'.ownBlock = some j → nv.ownBlock = some j ∨ w.heap.size ≤ j) ∧ Fr (own cb nv) w w'

set_option maxHeartbeats 400000 in
theorem put_zero {w : World} {B cb : Nat} {nv : Value} {n : Nat} {f : Int} {m : List (Int × Int)} (key val : Int) (I : Inv w B cb nv n f 0 m) :
    Calls Ybgv.prog 11 #[.pointer (some ⟨cb, 0, none⟩), .int .i64 key, .int .i64 val] w (PutPost w B cb nv n 0 m key val) := by
  have I0 := hide I
  obtain ⟨K, V, P, X, L, F, c, r, e, d, l⟩ := I
  have c5 := c.c5
  have hlt := c.lt
  clear c r e d l
  go_enter Ybgv.func11, Ybgv.ntmps11
  go_wp2
  refine bodyPost_ret (v := .tuple #[.agg #[.int .i64 key, .int .i64 val], .bool true]) (by simp [results, Ybgv.results11, go_sem]) rfl ⟨rfl, ⟨nv, n, f, ?_, by omega, fun j hj => .inl hj⟩, (Fr.refl _ _).alloc _⟩
  exact I0.out.alloc _

set_option maxHeartbeats 400000 in
theorem put_hit {w : World} {B cb : Nat} {nv : Value} {n : Nat} {f cp : Int} {m : List (Int × Int)} (key val : Int) (I : Inv w B cb nv n f cp m) (hn : n ≤ 100000) (hcp : cp ≠ 0) (hk : hasK m key = true) :
    Calls Ybgv.prog 11 #[.pointer (some ⟨cb, 0, none⟩), .int .i64 key, .int .i64 val] w (PutPost w B cb nv n cp m key val) := by
  obtain ⟨K, V, P, X, L, F, c, r, rfl, d, l⟩ := I
  have hfind := find_any key (c.alloc (.cells #[.int .i64 0, .int .i64 0] 29)) hn r.ltL r.lenL r.dl
  rcases slot_cases K key L with h | ⟨A, s, B', rfl, h1, h2⟩
  · rw [hasK_none (ents_key h)] at hk; cases hk
  obtain ⟨hs, sp, sx⟩ := r.slots
  rw [slotOf_hit h1 h2] at hfind
  have R := r.touch
  obtain ⟨n1, n2, n3, n4, n5, n6⟩ := nodup_mid r.nd
  obtain ⟨u1, u2, u3, u4⟩ := r.dl.unlink n1
  obtain ⟨p1, p2⟩ := u1.push n2 n3
  have hll := r.lenL
  have hE : ents K V (A ++ s :: B') = ents K V A ++ (key, V s) :: ents K V B' := by rw [ents_append, ents_cons, h2]
  have hg : mPut cp (ents K V (A ++ s :: B')) key val = ents K (upd V s val) (s :: (A ++ B')) := by
    unfold mPut
    have d' := d
    rw [if_neg hcp, hk, if_pos rfl]
    rw [hE] at d' ⊢
    rw [del_some (ents_key h1) rfl d', ents_cons, upd_same, h2, ← ents_append]
    congr 1
    refine (ents_congr fun x hx => ⟨rfl, ?_⟩).symm
    have hx' : x ≠ s := fun e => n3 (e ▸ hx)
    exact upd_other _ _ _ _ hx'
  have d2 := distinct_put (cp := cp) d key val
  have l2 := (put_length d l key val).1
  have hpo : pOut cp (ents K V (A ++ s :: B')) key val = ((0, 0), false) := by
    unfold pOut; rw [if_neg hcp, hk, if_pos rfl]
  unfold PutPost
  rw [hpo]
  obtain ⟨a, cap, nb, rfl, ha, _, _⟩ := c.row.form
  obtain rfl := ha (by omega)
  have fin : Hid (∀ w', CMem w' B cb (.slice (some ⟨nb, 0, none⟩) n cap) n K (upd V s val) (updI (upd (updI P (X s) (P s)) s (-1)) (hd (A ++ B')) s) (upd (updI X (P s) (X s)) s (hd (A ++ B'))) s (orI (hd (A ++ B')) s (lst (A ++ B'))) f ((A ++ B').length + 1) cp →
      Inv w' B cb (.slice (some ⟨nb, 0, none⟩) n cap) n f cp (mPut cp (ents K V (A ++ s :: B')) key val)) := by
    intro w' cw
    refine ⟨K, _, _, _, s :: (A ++ B'), F, ?_, R, hg, d2, l2⟩
    rw [p2] at cw
    exact cw
  have HP : Hid (∀ w1, CMem w1 B cb (.slice (some ⟨nb, 0, none⟩) n cap) n K (upd V s val) (updI P (X s) (P s)) (updI X (P s) (X s)) (hd (A ++ B')) (lst (A ++ B')) f (A ++ B').length cp → _) := fun w1 c1 => push_any s c1 hn hs (hd_slot (fun x hx => r.ltL x (by simp at hx ⊢; rcases hx with h | h <;> simp [h]))) (hd_ne n3) (by omega) (by simp at hll ⊢; omega)
  have hun := unlink_any s ((c.setV s hs val).alloc (.cells #[.int .i64 0, .int .i64 0] 29)) hn hs sp sx (by simp; omega) (by omega)
  rw [u2, u3, touch_len] at hun
  have hb : ((s : Int) != -1) = true := by rw [bne_iff_ne]; omega
  have hsn : (s : Int) < (n : Int) := by omega
  have hc0 : (cp == 0) = false := beq_eq_false_iff_ne.2 hcp
  have c0 := c.c0
  have c5 := c.c5
  have hlt := c.lt
  have hltn := (c.row.lt nb rfl).2
  have hfn := c.row.frozen
  have hol := hide c.own_lt
  obtain ⟨_, gv, _, _⟩ := c.row.cells hs
  have hne2 : nb ≠ w.heap.size := by omega
  clear h1 h2 d l c r R n1 n2 n3 n4 n5 n6 u1 u2 u3 u4 p1 p2 hE hg d2 l2 ha hll hpo hk sp sx hcp
  go_enter Ybgv.func11, Ybgv.ntmps11
  go_wp2_with fail
  refine hfind.mono ?_
  rintro e w' ⟨rfl, rfl⟩
  clear hfind
  go_wp2_with fail
  refine hun.mono ?_
  rintro e w1 ⟨rfl, c1, f1⟩
  clear hun
  go_wp2_with fail
  refine (HP.out w1 c1).mono ?_
  rintro e w2 ⟨rfl, c2, f2⟩
  clear HP c1
  have f3 := f1.trans f2
  have hs1 := f3.size
  simp only [World.size_alloc, World.size_setCell] at hs1
  have ho : ¬ own cb (.slice (some ⟨nb, 0, none⟩) n cap) w.heap.size := fun h => by have := (hol.out _ h).2; omega
  have r0 : w2.cell? ⟨w.heap.size, 0, none⟩ = some (.int .i64 0) := (f3.cell (p := ⟨w.heap.size, 0, none⟩) (by simp) ho).trans (by rw [World.cell?_alloc_at _ _ _ _ (by simp)]; rfl)
  have r1 : w2.cell? ⟨w.heap.size, 1, none⟩ = some (.int .i64 0) := (f3.cell (p := ⟨w.heap.size, 1, none⟩) (by simp) ho).trans (by rw [World.cell?_alloc_at _ _ _ _ (by simp)]; rfl)
  have r4 : w2.frozen? ⟨w.heap.size, 0, none⟩ = false := (f3.frozen (p := ⟨w.heap.size, 0, none⟩) (by simp) ho).trans (by simp [go_sem])
  have r5 : w2.frozen? ⟨w.heap.size, 1, none⟩ = false := (f3.frozen (p := ⟨w.heap.size, 1, none⟩) (by simp) ho).trans (by simp [go_sem])
  have J := hide (fin.out _ ((c2.setOther (p := ⟨w.heap.size, 0, none⟩) ho (.int .i64 0)).setOther (p := ⟨w.heap.size, 1, none⟩) ho (.int .i64 0)))
  have FF : Hid (Fr (own cb (.slice (some ⟨nb, 0, none⟩) n cap)) w w2) := (((Fr.refl _ w).setNb _ _).alloc _).trans f3
  clear fin c2 f1 f2 f3 ho hol hfn gv c0 c5
  go_wp2
  refine bodyPost_ret (v := .tuple #[.agg #[.int .i64 0, .int .i64 0], .bool false]) (by simp [results, Ybgv.results11, go_sem]; go_simp) rfl ⟨rfl, ⟨_, n, f, J.out, by omega, fun j hj => .inl hj⟩, (FF.out.setNew _ _ (Nat.le_refl _) _).setNew _ _ (Nat.le_refl _) _⟩

end Go.Proofs.Ymwhbg
