/-
  The contract of Put where the key is absent.
-/
import Derived.Test.YmwhbgPut
namespace Go.Proofs.Ymwhbg
open Go.RowKit
set_option linter.unusedVariables false
set_option linter.unusedSimpArgs false

theorem miss_of {m : List (Int × Int)} {k : Int} (h : hasK m k = false) : ∀ x ∈ m, x.1 ≠ k := by
  rcases key_cases k m with h' | ⟨a, e, b, rfl, h1, h2⟩
  · exact h'
  · rw [hasK_some h2] at h; cases h

theorem take_inv {w' : World} {B cb : Nat} {nv : Value} {n : Nat} {f cp : Int} {K V P X : Nat → Int} {L F : List Nat} {s : Nat} {key val : Int}
    (r : Rep n P X f L (s :: F)) (d : distinct (ents K V L)) (hk : ∀ x ∈ ents K V L, x.1 ≠ key) (l : ((ents K V L).length : Int) + 1 ≤ cp)
    (c : CMem w' B cb nv n (upd K s key) (upd V s val) (updI (upd P s (-1)) (hd L) s) (upd X s (hd L)) s (orI (hd L) s (lst L)) (X s) (L.length + 1) cp) :
    Inv w' B cb nv n (X s) cp ((key, val) :: ents K V L) := by
  have h0 := List.nodup_append.1 r.nd
  have hs : s ∉ L := fun h => h0.2.2 s h s (by simp) rfl
  rw [(r.dl.push h0.1 hs).2] at c
  refine ⟨_, _, _, _, s :: L, F, c, r.take.2, ?_, distinct_cons d hk, by simpa using l⟩
  rw [ents_cons, upd_same, upd_same]
  congr 1
  refine (ents_congr fun x hx => ?_).symm
  have : x ≠ s := fun e => hs (e ▸ hx)
  exact ⟨upd_other _ _ _ _ this, upd_other _ _ _ _ this⟩

theorem grow_inv {w' : World} {B cb : Nat} {nv : Value} {n : Nat} {cp : Int} {K V P X K0 V0 P0 X0 : Nat → Int} {L : List Nat} {key val : Int}
    (r : Rep n P X (-1) L []) (e : ∀ j, j < n → K0 j = K j ∧ V0 j = V j ∧ P0 j = P j ∧ X0 j = X j) (d : distinct (ents K V L)) (hk : ∀ x ∈ ents K V L, x.1 ≠ key) (l : ((ents K V L).length : Int) + 1 ≤ cp)
    (c : CMem w' B cb nv (n + 1) (upd K0 n key) (upd V0 n val) (updI (upd P0 n (-1)) (hd L) n) (upd X0 n (hd L)) n (orI (hd L) n (lst L)) (-1) (L.length + 1) cp) :
    Inv w' B cb nv (n + 1) (-1) cp ((key, val) :: ents K V L) := by
  have hnd : L.Nodup := by simpa using r.nd
  have hs : n ∉ L := fun h => by have := r.lt n (by simp [h]); omega
  have d0 : DL P0 X0 L := r.dl.congr (fun j hj => (e j (r.lt j (by simp [hj]))).2.2)
  rw [(d0.push hnd hs).2] at c
  refine ⟨_, _, _, _, n :: L, [], c, r.grow (fun j hj => (e j hj).2.2), ?_, distinct_cons d hk, by simpa using l⟩
  rw [ents_cons, upd_same, upd_same]
  congr 1
  refine (ents_congr fun x hx => ?_).symm
  have h1 : x ≠ n := fun e => hs (e ▸ hx)
  have h2 := e x (r.lt x (by simp [hx]))
  exact ⟨(upd_other _ _ _ _ h1).trans h2.1, (upd_other _ _ _ _ h1).trans h2.2.1⟩

/-- Two new blocks of two cells, behind a callee. -/
theorem new_facts {S : Nat → Prop} {w0 w2 : World} {a0 a1 b0 b1 : Value} (f : Fr S ((w0.alloc (.cells #[a0, a1] 29)).alloc (.cells #[b0, b1] 29)).drew w2) (N : Nat) (hN : w0.heap.size = N) (h0 : ¬ S N) (h1 : ¬ S (N + 1)) :
    w2.cell? ⟨N, 0, none⟩ = some a0 ∧ w2.cell? ⟨N, 1, none⟩ = some a1 ∧ w2.cell? ⟨N + 1, 0, none⟩ = some b0 ∧ w2.cell? ⟨N + 1, 1, none⟩ = some b1 ∧
    w2.frozen? ⟨N, 0, none⟩ = false ∧ w2.frozen? ⟨N, 1, none⟩ = false ∧ w2.frozen? ⟨N + 1, 0, none⟩ = false ∧ w2.frozen? ⟨N + 1, 1, none⟩ = false ∧ N + 2 ≤ w2.heap.size := by
  subst hN
  have hsz : ((w0.alloc (.cells #[a0, a1] 29)).alloc (.cells #[b0, b1] 29)).drew.heap.size = w0.heap.size + 2 := by simp
  have e0 : w2.heap[w0.heap.size]? = some (.cells #[a0, a1] 29) := by
    rw [f.block _ (by omega) h0]; exact (Below.heap_alloc _ _ _ (by simp)).trans (heap_alloc_new w0 _)
  have e1 : w2.heap[w0.heap.size + 1]? = some (.cells #[b0, b1] 29) := by
    rw [f.block _ (by omega) h1]; have := heap_alloc_new (w0.alloc (.cells #[a0, a1] 29)) (.cells #[b0, b1] 29); rw [World.size_alloc] at this; exact this
  have hs := f.size
  refine ⟨?_, ?_, ?_, ?_, ?_, ?_, ?_, ?_, by omega⟩
  · simp [World.cell?, e0]
  · simp [World.cell?, e0]
  · simp [World.cell?, e1]
  · simp [World.cell?, e1]
  · simp [World.frozen?, e0]
  · simp [World.frozen?, e0]
  · simp [World.frozen?, e1]
  · simp [World.frozen?, e1]

set_option maxHeartbeats 400000 in
theorem put_free {w : World} {B cb : Nat} {nv : Value} {n : Nat} {f cp : Int} {m : List (Int × Int)} (key val : Int) (I : Inv w B cb nv n f cp m) (hn : n ≤ 100000) (hcp : cp ≠ 0) (hk : hasK m key = false)
    (hlen : (m.length : Int) ≠ cp) (hf : f ≠ -1) :
    Calls Ybgv.prog 11 #[.pointer (some ⟨cb, 0, none⟩), .int .i64 key, .int .i64 val] w (PutPost w B cb nv n cp m key val) := by
  obtain ⟨K, V, P, X, L, F, c, r, rfl, d, l⟩ := I
  have hmiss := miss_of hk
  have hfind := find_any key (c.alloc (.cells #[.int .i64 0, .int .i64 0] 29)) hn r.ltL r.lenL r.dl
  rw [slotOf_miss (fun x hx => hmiss (K x, V x) (List.mem_map.2 ⟨x, hx, rfl⟩))] at hfind
  obtain ⟨s, F', rfl, rfl⟩ := r.free_cons hf
  have hs : s < n := r.lt s (by simp)
  have hsL : s ∉ L := fun h => (List.nodup_append.1 r.nd).2.2 s h s (by simp) rfl
  have hll := r.lenL
  have hg : mPut cp (ents K V L) key val = (key, val) :: ents K V L := by
    unfold mPut; rw [if_neg hcp, hk, if_neg (by simp), if_neg hlen]
  have hpo : pOut cp (ents K V L) key val = ((0, 0), false) := by
    unfold pOut; rw [if_neg hcp, hk, if_neg (by simp), if_neg hlen]
  unfold PutPost
  rw [hpo, hg]
  obtain ⟨a, cap, nb, rfl, ha, _, _⟩ := c.row.form
  obtain rfl := ha (by omega)
  have fin : Hid (∀ w', CMem w' B cb (.slice (some ⟨nb, 0, none⟩) n cap) n (upd K s key) (upd V s val) (updI (upd P s (-1)) (hd L) s) (upd X s (hd L)) s (orI (hd L) s (lst L)) (X s) (L.length + 1) cp →
      Inv w' B cb (.slice (some ⟨nb, 0, none⟩) n cap) n (X s) cp ((key, val) :: ents K V L)) :=
    fun w' cw => take_inv r d hmiss (by rw [ents_length] at *; omega) cw
  have HP : Hid (∀ w1, CMem w1 B cb (.slice (some ⟨nb, 0, none⟩) n cap) n (upd K s key) (upd V s val) P X (hd L) (lst L) (X s) L.length cp → _) := fun w1 c1 => push_any s c1 hn hs (hd_slot r.ltL) (hd_ne hsL) (by omega) (by omega)
  have hb : ((s : Int) == -1) = false := beq_eq_false_iff_ne.2 (by omega)
  have hsn : (s : Int) < (n : Int) := by omega
  have hc0 : (cp == 0) = false := beq_eq_false_iff_ne.2 hcp
  have hle : ((L.length : Int) == cp) = false := beq_eq_false_iff_ne.2 (by rw [ents_length] at hlen; exact hlen)
  have c0 := c.c0
  have c3 := c.c3
  have c4 := c.c4
  have c5 := c.c5
  have hlt := c.lt
  have hltn := (c.row.lt nb rfl).2
  have hfn := c.row.frozen
  have hfz := c.fz
  have hol := hide c.own_lt
  obtain ⟨gk, gv, _, gx⟩ := c.row.cells hs
  have hne := c.ne
  have hne' : cb ≠ nb := fun e => hne e.symm
  have hne2 : nb ≠ w.heap.size := by omega
  have hne3 : cb ≠ w.heap.size := by omega
  have C := hide c
  clear d l c r ha hpo hk hcp hmiss hlen hf hg hsL
  go_enter Ybgv.func11, Ybgv.ntmps11
  go_wp2_with fail
  refine hfind.mono ?_
  rintro e w' ⟨rfl, rfl⟩
  clear hfind
  go_wp2_with fail
  go_region
  go_wp2_with fail
  refine (HP.out _ ((((((C.out.set3 _).setK s hs _).setV s hs _).alloc _).alloc _).drew)).mono ?_
  rintro e w2 ⟨rfl, c2, f2⟩
  clear HP
  have ho : ∀ k, w.heap.size ≤ k → ¬ own cb (.slice (some ⟨nb, 0, none⟩) n cap) k := fun k hk h => by have := (hol.out _ h).2; omega
  obtain ⟨r0, r1, r2, r3, r4, r5, r6, r7, r8⟩ := new_facts f2 w.heap.size (by simp) (ho _ (by omega)) (ho _ (by omega))
  have J := hide (fin.out _ ((c2.setOther (p := ⟨w.heap.size, 0, none⟩) (ho _ (by simp)) (.int .i64 0)).setOther (p := ⟨w.heap.size, 1, none⟩) (ho _ (by simp)) (.int .i64 0)))
  have FF : Hid (Fr (own cb (.slice (some ⟨nb, 0, none⟩) n cap)) w w2) := ((((((Fr.refl _ w).setCb _ _).setNb _ _).setNb _ _).alloc _).alloc _).drew.trans f2
  clear fin c2 f2 ho hol hfn c0 c5 gk gv gx c3 c4 C
  go_wp2
  refine bodyPost_ret (v := .tuple #[.agg #[.int .i64 0, .int .i64 0], .bool false]) (by simp [results, Ybgv.results11, go_sem]; go_simp) rfl ⟨rfl, ⟨_, n, _, J.out, by omega, fun j hj => .inl hj⟩, (FF.out.setNew _ _ (Nat.le_refl _) _).setNew _ _ (Nat.le_refl _) _⟩

end Go.Proofs.Ymwhbg
