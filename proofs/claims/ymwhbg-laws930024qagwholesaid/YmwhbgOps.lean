/-
  The cache stands for a list: contracts of Get, Remove, Evict.
-/
import Derived.Test.YmwhbgInv
namespace Go.Proofs.Ymwhbg
open Go.RowKit
set_option linter.unusedVariables false
set_option linter.unusedSimpArgs false

theorem Rep.slots {n : Nat} {P X : Nat → Int} {f : Int} {A B F : List Nat} {s : Nat} (r : Rep n P X f (A ++ s :: B) F) : s < n ∧ Slot n (P s) ∧ Slot n (X s) := by
  obtain ⟨hp, hx⟩ := r.dl A s B rfl
  refine ⟨r.ltL s (by simp), ?_, ?_⟩
  · rw [hp]; exact lst_slot (fun x hx => r.ltL x (by simp [hx]))
  · rw [hx]; exact hd_slot (fun x hx => r.ltL x (by simp [hx]))

/-- unlink, then pushFront, of a slot of the list. -/
theorem touch_len {A B : List Nat} {s : Nat} : (((A ++ s :: B).length : Int)) - 1 = ((A ++ B).length : Int) := by simp; omega

set_option maxHeartbeats 400000 in
theorem get_any {w : World} {B cb : Nat} {nv : Value} {n : Nat} {f cp : Int} {m : List (Int × Int)} (key : Int) (I : Inv w B cb nv n f cp m) (hn : n ≤ 100000) :
    Calls Ybgv.prog 15 #[.pointer (some ⟨cb, 0, none⟩), .int .i64 key] w fun e w' => e = .returned (.tuple #[.int .i64 (valOf m key), .bool (hasK m key)]) ∧
      Inv w' B cb nv n f cp (mGet m key) ∧ Fr (own cb nv) w w' := by
  have I0 : Hid (Inv w B cb nv n f cp m) := I
  obtain ⟨K, V, P, X, L, F, c, r, rfl, d, l⟩ := I
  have hfind := find_any key c hn r.ltL r.lenL r.dl
  rcases slot_cases K key L with h | ⟨A, s, B', rfl, h1, h2⟩
  · have hg : Hid (mGet (ents K V L) key = ents K V L) := by unfold mGet; rw [hasK_none (ents_key h)]; rfl
    rw [valOf_none (ents_key h), hasK_none (ents_key h)]
    rw [slotOf_miss h] at hfind
    clear h d l c r
    go_enter Ybgv.func15, Ybgv.ntmps15
    go_wp2_with fail
    refine hfind.mono ?_
    rintro e w' ⟨rfl, rfl⟩
    clear hfind
    go_wp2
    go_ret2
    exact ⟨rfl, by rw [hg.out]; exact I0.out, Fr.refl _ _⟩
  · obtain ⟨hs, sp, sx⟩ := r.slots
    rw [slotOf_hit h1 h2] at hfind
    have R := r.touch
    obtain ⟨n1, n2, n3, n4, n5, n6⟩ := nodup_mid r.nd
    obtain ⟨u1, u2, u3, u4⟩ := r.dl.unlink n1
    obtain ⟨p1, p2⟩ := u1.push n2 n3
    have hll := r.lenL
    have hun := unlink_any s c hn hs sp sx (by simp; omega) (by omega)
    rw [u2, u3, touch_len] at hun
    have hE : ents K V (A ++ s :: B') = ents K V A ++ (key, V s) :: ents K V B' := by rw [ents_append, ents_cons, h2]
    have hg : mGet (ents K V (A ++ s :: B')) key = ents K V (s :: (A ++ B')) := by
      unfold mGet
      have d' := d
      rw [hE] at d' ⊢
      rw [hasK_some rfl, if_pos rfl, valOf_some (ents_key h1) rfl, del_some (ents_key h1) rfl d', ents_cons, ents_append, h2]
    have d2 := distinct_get d key
    have l2 := get_length d key
    rw [hE, valOf_some (ents_key h1) rfl, hasK_some rfl, ← hE]
    have fin : Hid (∀ w', CMem w' B cb nv n K V (updI (upd (updI P (X s) (P s)) s (-1)) (hd (A ++ B')) s) (upd (updI X (P s) (X s)) s (hd (A ++ B'))) s (orI (hd (A ++ B')) s (lst (A ++ B'))) f ((A ++ B').length + 1) cp →
        Inv w' B cb nv n f cp (mGet (ents K V (A ++ s :: B')) key)) := by
      intro w' cw
      refine ⟨K, V, _, _, s :: (A ++ B'), F, ?_, R, hg, d2, by rw [l2]; exact l⟩
      rw [p2] at cw
      exact cw
    have hpush : ∀ w1, CMem w1 B cb nv n K V (updI P (X s) (P s)) (updI X (P s) (X s)) (hd (A ++ B')) (lst (A ++ B')) f (A ++ B').length cp → _ := fun w1 c1 => push_any s c1 hn hs (hd_slot (fun x hx => r.ltL x (by simp at hx ⊢; rcases hx with h | h <;> simp [h]))) (hd_ne n3) (by omega) (by simp at hll ⊢; omega)
    have hb : ((s : Int) == -1) = false := beq_eq_false_iff_ne.2 (by omega)
    have hsn : (s : Int) < (n : Int) := by omega
    have HP := hpush
    obtain ⟨a, cap, nb, rfl, ha, _, _⟩ := c.row.form
    obtain rfl := ha (by omega)
    clear h1 h2 d l c r R n1 n2 n3 n4 n5 n6 u1 u2 u3 u4 p1 p2 hE hg d2 l2 ha hpush I0 hll
    go_enter Ybgv.func15, Ybgv.ntmps15
    go_wp2_with fail
    refine hfind.mono ?_
    rintro e w' ⟨rfl, rfl⟩
    clear hfind
    go_wp2_with fail
    refine hun.mono ?_
    rintro e w1 ⟨rfl, c1, f1⟩
    clear hun
    go_wp2_with fail
    refine (HP w1 c1).mono ?_
    rintro e w2 ⟨rfl, c2, f2⟩
    clear HP
    have c0 := c2.c0
    obtain ⟨_, gv, _, _⟩ := c2.row.cells hs
    have J := hide (fin.out w2 c2)
    have FF := hide (f1.trans f2)
    clear fin c2 f1 f2 c1
    go_wp2
    go_ret2
    exact ⟨rfl, J.out, FF.out⟩

theorem field_val (a b : Int) (w : World) : (Instr.field 29 (.agg #[.int .i64 a, .int .i64 b]) 1).run Ybgv.prog w = .ok (.int .i64 b) w := by kernel_rfl

theorem drop_len {A B : List Nat} {s : Nat} : (((A ++ s :: B).length : Int)) - 1 = ((A ++ B).length : Int) := by simp; omega

/-- What dropping a slot of the list does to what the cache stands for. -/
theorem drop_inv {w w' : World} {B cb : Nat} {nv : Value} {n : Nat} {f cp : Int} {K V P X : Nat → Int} {A B' F : List Nat} {s : Nat}
    (r : Rep n P X f (A ++ s :: B') F) (d : distinct (ents K V (A ++ s :: B'))) (l : ((ents K V (A ++ s :: B')).length : Int) ≤ cp)
    (c : CMem w' B cb nv n (upd K s 0) (upd V s 0) (upd (updI P (X s) (P s)) s (-1)) (upd (updI X (P s) (X s)) s f) (orI (P s) (X s) (hd (A ++ s :: B'))) (orI (X s) (P s) (lst (A ++ s :: B'))) s ((A ++ s :: B').length - 1) cp) :
    Inv w' B cb nv n s cp (ents K V A ++ ents K V B') := by
  obtain ⟨n1, n2, n3, n4, n5, n6⟩ := nodup_mid r.nd
  obtain ⟨u1, u2, u3, u4⟩ := r.dl.unlink n1
  rw [u2, u3, drop_len] at c
  have e1 : ents K V A ++ ents K V B' = ents (upd K s 0) (upd V s 0) (A ++ B') := by
    rw [← ents_append]
    refine (ents_congr fun x hx => ?_).symm
    have : x ≠ s := fun e => n3 (e ▸ hx)
    exact ⟨upd_other _ _ _ _ this, upd_other _ _ _ _ this⟩
  refine ⟨_, _, _, _, A ++ B', s :: F, c, r.drop, e1, ?_, ?_⟩
  · rw [ents_append, ents_cons] at d
    unfold distinct at d ⊢
    refine d.sublist (List.Sublist.map _ ?_)
    exact (List.Sublist.refl _).append (List.sublist_cons_self _ _)
  · simp [ents_length] at l ⊢; omega

set_option maxHeartbeats 400000 in
theorem remove_any {w : World} {B cb : Nat} {nv : Value} {n : Nat} {f cp : Int} {m : List (Int × Int)} (key : Int) (I : Inv w B cb nv n f cp m) (hn : n ≤ 100000) :
    Calls Ybgv.prog 16 #[.pointer (some ⟨cb, 0, none⟩), .int .i64 key] w fun e w' => e = .returned (.tuple #[.int .i64 (valOf m key), .bool (hasK m key)]) ∧
      (∃ f', Inv w' B cb nv n f' cp (del m key)) ∧ Fr (own cb nv) w w' := by
  have I0 : Hid (Inv w B cb nv n f cp m) := I
  obtain ⟨K, V, P, X, L, F, c, r, rfl, d, l⟩ := I
  have hfind := find_any key c hn r.ltL r.lenL r.dl
  rcases slot_cases K key L with h | ⟨A, s, B', rfl, h1, h2⟩
  · have hg : Hid (del (ents K V L) key = ents K V L) := del_none (ents_key h)
    rw [valOf_none (ents_key h), hasK_none (ents_key h)]
    rw [slotOf_miss h] at hfind
    clear h d l c r
    go_enter Ybgv.func16, Ybgv.ntmps16
    go_wp2_with fail
    refine hfind.mono ?_
    rintro e w' ⟨rfl, rfl⟩
    clear hfind
    go_wp2
    go_ret2
    exact ⟨rfl, ⟨f, by rw [hg.out]; exact I0.out⟩, Fr.refl _ _⟩
  · obtain ⟨hs, sp, sx⟩ := r.slots
    rw [slotOf_hit h1 h2] at hfind
    have hll := r.lenL
    have hdr := drop_any s c hn hs sp sx (by simp; omega) (by omega)
    have hE : ents K V (A ++ s :: B') = ents K V A ++ (key, V s) :: ents K V B' := by rw [ents_append, ents_cons, h2]
    have fin : Hid (∀ w', CMem w' B cb nv n (upd K s 0) (upd V s 0) (upd (updI P (X s) (P s)) s (-1)) (upd (updI X (P s) (X s)) s f) (orI (P s) (X s) (hd (A ++ s :: B'))) (orI (X s) (P s) (lst (A ++ s :: B'))) s ((A ++ s :: B').length - 1) cp →
        Inv w' B cb nv n s cp (del (ents K V (A ++ s :: B')) key)) := by
      intro w' cw
      have e : del (ents K V (A ++ s :: B')) key = ents K V A ++ ents K V B' := by
        have d' := d
        rw [hE] at d' ⊢
        exact del_some (ents_key h1) rfl d'
      rw [e]
      exact drop_inv (w := w) r d l cw
    rw [hE, valOf_some (ents_key h1) rfl, hasK_some rfl, ← hE]
    have hb : ((s : Int) == -1) = false := beq_eq_false_iff_ne.2 (by omega)
    clear h1 h2 d l c r hE I0 hll sp sx
    go_enter Ybgv.func16, Ybgv.ntmps16
    go_wp2_with fail
    refine hfind.mono ?_
    rintro e w' ⟨rfl, rfl⟩
    clear hfind
    go_wp2_with fail
    refine hdr.mono ?_
    rintro e w1 ⟨rfl, c1, f1⟩
    clear hdr
    have J := hide (fin.out w1 c1)
    have FF := hide f1
    clear fin c1 f1
    have hfd := field_val
    go_wp2
    go_ret2
    exact ⟨rfl, ⟨_, J.out⟩, FF.out⟩

/-- What Evict answers. -/
def evOut (m : List (Int × Int)) : Int × Int := m.getLast?.getD (0, 0)

set_option maxHeartbeats 400000 in
theorem evict_any {w : World} {B cb : Nat} {nv : Value} {n : Nat} {f cp : Int} {m : List (Int × Int)} (I : Inv w B cb nv n f cp m) (hn : n ≤ 100000) :
    Calls Ybgv.prog 17 #[.pointer (some ⟨cb, 0, none⟩)] w fun e w' => e = .returned (.tuple #[.agg #[.int .i64 (evOut m).1, .int .i64 (evOut m).2], .bool (!m.isEmpty)]) ∧
      (∃ f', Inv w' B cb nv n f' cp m.dropLast ∧ (m ≠ [] → f' ≠ -1)) ∧ Fr (own cb nv) w w' := by
  have I0 : Hid (Inv w B cb nv n f cp m) := I
  obtain ⟨K, V, P, X, L, F, c, r, rfl, d, l⟩ := I
  rcases snoc_cases L with rfl | ⟨A, s, rfl⟩
  · have c4 : w.cell? ⟨cb, 4, none⟩ = some (.int .i64 0) := c.c4
    have hlt := c.lt
    clear c r d l
    go_enter Ybgv.func17, Ybgv.ntmps17
    go_wp2
    refine bodyPost_ret (v := .tuple #[.agg #[.int .i64 0, .int .i64 0], .bool false]) (by simp [results, Ybgv.results17, go_sem]) rfl ⟨rfl, ⟨f, I0.out.alloc _, by simp [ents]⟩, (Fr.refl _ _).alloc _⟩
  · obtain ⟨hs, sp, sx⟩ := r.slots
    have hll := r.lenL
    have hE : ents K V (A ++ [s]) = ents K V A ++ [(K s, V s)] := by rw [ents_append, ents_cons]; rfl
    have c2 := c.c2
    have c4 := c.c4
    rw [lst_snoc] at c2
    have hsz : (((A ++ [s]).length : Int) == 0) = false := beq_eq_false_iff_ne.2 (by simp; omega)
    have hlt := c.lt
    have hol := c.own_lt
    have hdr := drop_any s (c.alloc (.cells #[.int .i64 0, .int .i64 0] 29)) hn hs sp sx (by simp; omega) (by omega)
    have fin : Hid (∀ w', CMem w' B cb nv n (upd K s 0) (upd V s 0) (upd (updI P (X s) (P s)) s (-1)) (upd (updI X (P s) (X s)) s f) (orI (P s) (X s) (hd (A ++ s :: []))) (orI (X s) (P s) (lst (A ++ s :: []))) s ((A ++ s :: []).length - 1) cp →
        Inv w' B cb nv n s cp (ents K V (A ++ [s])).dropLast) := by
      intro w' cw
      have e : (ents K V (A ++ [s])).dropLast = ents K V A ++ ents K V [] := by rw [hE, List.dropLast_concat]; simp [ents]
      rw [e]
      exact drop_inv (w := w) r d l cw
    have e1 : evOut (ents K V (A ++ [s])) = (K s, V s) := by rw [hE]; simp [evOut]
    have e2 : (!(ents K V (A ++ [s])).isEmpty) = true := by simp [ents]
    rw [e1, e2]
    clear d l c r hE I0 hll sp sx e1 e2
    go_enter Ybgv.func17, Ybgv.ntmps17
    go_wp2_with fail
    refine hdr.mono ?_
    rintro e w1 ⟨rfl, c1, f1⟩
    clear hdr
    have hs1 := f1.size
    simp only [World.size_alloc] at hs1
    have ho : ¬ own cb nv w.heap.size := fun h => by have := (hol _ h).2; omega
    have r0 : w1.cell? ⟨w.heap.size, 0, none⟩ = some (.int .i64 0) := (f1.cell (p := ⟨w.heap.size, 0, none⟩) (by simp) ho).trans (by simp [go_sem])
    have r1 : w1.cell? ⟨w.heap.size, 1, none⟩ = some (.int .i64 0) := (f1.cell (p := ⟨w.heap.size, 1, none⟩) (by simp) ho).trans (by simp [go_sem])
    have r4 : w1.frozen? ⟨w.heap.size, 0, none⟩ = false := (f1.frozen (p := ⟨w.heap.size, 0, none⟩) (by simp) ho).trans (by simp [go_sem])
    have r5 : w1.frozen? ⟨w.heap.size, 1, none⟩ = false := (f1.frozen (p := ⟨w.heap.size, 1, none⟩) (by simp) ho).trans (by simp [go_sem])
    have J := hide (fin.out _ ((c1.setOther (p := ⟨w.heap.size, 0, none⟩) ho (.int .i64 (K s))).setOther (p := ⟨w.heap.size, 1, none⟩) ho (.int .i64 (V s))))
    have FF : Hid (Fr (own cb nv) w w1) := ((Fr.refl _ w).alloc _).trans f1
    clear fin c1 f1 ho hol
    go_wp2
    refine bodyPost_ret (v := .tuple #[.agg #[.int .i64 (K s), .int .i64 (V s)], .bool true]) (by simp [results, Ybgv.results17, go_sem]; go_simp) rfl ⟨rfl, ⟨_, J.out, fun _ => by omega⟩, (FF.out.setNew _ _ (Nat.le_refl _) _).setNew _ _ (Nat.le_refl _) _⟩

end Go.Proofs.Ymwhbg
