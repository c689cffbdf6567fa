/-
  The contract of Put where the cache is full.
-/
import Derived.Test.YmwhbgPut2
namespace Go.Proofs.Ymwhbg
open Go.RowKit
set_option linter.unusedVariables false
set_option linter.unusedSimpArgs false

theorem Inv.setOther {w : World} {B cb : Nat} {nv : Value} {n : Nat} {f cp : Int} {m : List (Int × Int)} (I : Inv w B cb nv n f cp m) {p : Addr} (hp : ¬ own cb nv p.block) (u : Value) : Inv (w.setCell p u) B cb nv n f cp m :=
  I.heap (fun k hk => Below.heap_setCell _ _ _ _ (fun e => hp (e ▸ hk)))

set_option maxHeartbeats 1000000 in
theorem put_full {w : World} {B cb : Nat} {nv : Value} {n : Nat} {f cp : Int} {m : List (Int × Int)} (key val : Int) (I : Inv w B cb nv n f cp m) (hn : n ≤ 100000) (hcp : cp ≠ 0) (hk : hasK m key = false)
    (hlen : (m.length : Int) = cp) :
    Calls Ybgv.prog 11 #[.pointer (some ⟨cb, 0, none⟩), .int .i64 key, .int .i64 val] w (PutPost w B cb nv n cp m key val) := by
  have hev := evict_any (((I.alloc (.cells #[.int .i64 0, .int .i64 0] 29)).alloc (.cells #[.int .i64 0, .int .i64 0] 29)).drew) hn
  have hm0 : m ≠ [] := by rintro rfl; simp at hlen; exact hcp hlen.symm
  have hg : mPut cp m key val = (key, val) :: m.dropLast := by
    unfold mPut; rw [if_neg hcp, hk, if_neg (by simp), if_pos hlen]
  have hpo : pOut cp m key val = (evOut m, true) := by
    unfold pOut; rw [if_neg hcp, hk, if_neg (by simp), if_pos hlen]; rfl
  have hmiss := miss_of hk
  have hol := hide I.own_lt
  have he : (!m.isEmpty) = true := by simpa using hm0
  have hml : (m.dropLast.length : Int) + 1 ≤ cp := by
    have : 0 < m.length := List.length_pos_iff.2 hm0
    simp; omega
  have hmd : ∀ x ∈ m.dropLast, x.1 ≠ key := fun x hx => hmiss x (List.dropLast_subset m hx)
  unfold PutPost
  rw [hpo, hg]
  rw [he] at hev
  obtain ⟨K, V, P, X, L, F, c, r, e, d, l⟩ := I
  have hfind := find_any key (c.alloc (.cells #[.int .i64 0, .int .i64 0] 29)) hn r.ltL r.lenL r.dl
  rw [slotOf_miss (fun x hx => hmiss (K x, V x) (by rw [e]; exact List.mem_map.2 ⟨x, hx, rfl⟩))] at hfind
  have hc0 : (cp == 0) = false := beq_eq_false_iff_ne.2 hcp
  have hle : ((L.length : Int) == cp) = true := beq_iff_eq.2 (by rw [e, ents_length] at hlen; exact hlen)
  have c4 := c.c4
  have c5 := c.c5
  have hlt := c.lt
  generalize hev1 : evOut m = o at *
  obtain ⟨o1, o2⟩ := o
  have hne3 : cb ≠ w.heap.size := by omega
  clear d l c r hpo hk hcp hmiss hlen hg e hev1
  go_enter Ybgv.func11, Ybgv.ntmps11
  go_wp2_with fail
  refine hfind.mono ?_
  rintro e w' ⟨rfl, rfl⟩
  clear hfind
  go_wp2_with fail
  go_region
  go_wp2_with fail
  refine hev.mono ?_
  rintro e w1 ⟨rfl, ⟨f', I1, hf'⟩, f1⟩
  clear hev
  have ho : ∀ k, w.heap.size ≤ k → ¬ own cb nv k := fun k hk h => by have := (hol.out _ h).2; omega
  obtain ⟨r0, r1, r2, r3, r4, r5, r6, r7, r8⟩ := new_facts f1 w.heap.size rfl (ho _ (by omega)) (ho _ (by omega))
  have I2 := (I1.setOther (p := ⟨w.heap.size + 1, 0, none⟩) (ho _ (by simp)) (.int .i64 o1)).setOther (p := ⟨w.heap.size + 1, 1, none⟩) (ho _ (by simp)) (.int .i64 o2)
  have F1 : Hid (Fr (own cb nv) w w1) := (((Fr.refl _ w).alloc _).alloc _).drew.trans f1
  have hf := hf' hm0
  clear f1 hf' c4 c5 hle hlt hol he
  obtain ⟨K, V, P, X, L, F, c, r, e, d, l⟩ := I1
  rw [e] at hmd hml
  obtain ⟨s, F', rfl, rfl⟩ := r.free_cons hf
  have hs : s < n := r.lt s (by simp)
  have hsL : s ∉ L := fun h => (List.nodup_append.1 r.nd).2.2 s h s (by simp) rfl
  have hll := r.lenL
  obtain ⟨a, cap, nb, rfl, ha, _, _⟩ := c.row.form
  obtain rfl := ha (by omega)
  have fin : Hid (∀ w', CMem w' B cb (.slice (some ⟨nb, 0, none⟩) n cap) n (upd K s key) (upd V s val) (updI (upd P s (-1)) (hd L) s) (upd X s (hd L)) s (orI (hd L) s (lst L)) (X s) (L.length + 1) cp →
      Inv w' B cb (.slice (some ⟨nb, 0, none⟩) n cap) n (X s) cp ((key, val) :: m.dropLast)) :=
    fun w' cw => by rw [e]; exact take_inv r (by rw [← e]; exact d) hmd hml cw
  have HP : Hid (∀ w1, CMem w1 B cb (.slice (some ⟨nb, 0, none⟩) n cap) n (upd K s key) (upd V s val) P X (hd L) (lst L) (X s) L.length cp → _) := fun w1 c1 => push_any s c1 hn hs (hd_slot r.ltL) (hd_ne hsL) (by omega) (by omega)
  have hb : ((s : Int) == -1) = false := beq_eq_false_iff_ne.2 (by omega)
  have hsn : (s : Int) < (n : Int) := by omega
  have c0 := c.c0
  have c3 := c.c3
  have hlt := ho
  have hfn := c.row.frozen
  have hfz := c.fz
  obtain ⟨gk, gv, _, gx⟩ := c.row.cells hs
  have hne := c.ne
  have hne' : cb ≠ nb := fun e => hne e.symm
  have hcw : cb < w.heap.size := Nat.lt_of_not_le (fun h => ho _ h (own_cb _ _))
  have hnw : nb < w.heap.size := Nat.lt_of_not_le (fun h => ho _ h (own_nb _ _ _ _))
  have hne2 : nb ≠ w.heap.size + 1 := by omega
  have hne4 : cb ≠ w.heap.size + 1 := by omega
  have hne5 : nb ≠ w.heap.size := by omega
  have C := hide c
  have HO := hide ho
  clear d l c r ha hmd hml hf hsL e I2 hlt ho
  go_wp2_with fail
  refine (HP.out _ (((((C.out.setOther (p := ⟨w.heap.size + 1, 0, none⟩) (HO.out _ (by simp)) (.int .i64 o1)).setOther (p := ⟨w.heap.size + 1, 1, none⟩) (HO.out _ (by simp)) (.int .i64 o2)).set3 _).setK s hs _).setV s hs _)).mono ?_
  rintro e w2 ⟨rfl, c2, f2⟩
  clear HP
  have f3 : Fr (own cb (.slice (some ⟨nb, 0, none⟩) n cap)) w w2 := (((((F1.out.setNew _ _ (by omega) _).setNew _ _ (by omega) _).setCb _ _).setNb _ _).setNb _ _).trans f2
  have hx2 := f2.size
  simp only [World.size_setCell] at hx2
  have q0 : w2.cell? ⟨w.heap.size, 0, none⟩ = some (.int .i64 0) := by
    rw [f2.cell (p := ⟨w.heap.size, 0, none⟩) (by simp; omega) (HO.out _ (by simp))]; go_simp
  have q1 : w2.cell? ⟨w.heap.size, 1, none⟩ = some (.int .i64 0) := by
    rw [f2.cell (p := ⟨w.heap.size, 1, none⟩) (by simp; omega) (HO.out _ (by simp))]; go_simp
  have q2 : w2.cell? ⟨w.heap.size + 1, 0, none⟩ = some (.int .i64 o1) := by
    rw [f2.cell (p := ⟨w.heap.size + 1, 0, none⟩) (by simp; omega) (HO.out _ (by simp))]; go_simp
  have q3 : w2.cell? ⟨w.heap.size + 1, 1, none⟩ = some (.int .i64 o2) := by
    rw [f2.cell (p := ⟨w.heap.size + 1, 1, none⟩) (by simp; omega) (HO.out _ (by simp))]; go_simp
  have q4 : w2.frozen? ⟨w.heap.size, 0, none⟩ = false := by
    rw [f2.frozen (p := ⟨w.heap.size, 0, none⟩) (by simp; omega) (HO.out _ (by simp))]; go_simp
  have q5 : w2.frozen? ⟨w.heap.size, 1, none⟩ = false := by
    rw [f2.frozen (p := ⟨w.heap.size, 1, none⟩) (by simp; omega) (HO.out _ (by simp))]; go_simp
  have J := hide (fin.out _ ((c2.setOther (p := ⟨w.heap.size, 0, none⟩) (HO.out _ (by simp)) (.int .i64 o1)).setOther (p := ⟨w.heap.size, 1, none⟩) (HO.out _ (by simp)) (.int .i64 o2)))
  have FF := hide f3
  clear fin c2 f2 f3 HO hfn hfz c0 gk gv gx c3 C r0 r1 r2 r3 r4 r5 r6 r7 F1
  go_wp2
  refine bodyPost_ret (v := .tuple #[.agg #[.int .i64 o1, .int .i64 o2], .bool true]) (by simp [results, Ybgv.results11, go_sem]; go_simp) rfl ⟨rfl, ⟨_, n, _, J.out, by omega, fun j hj => .inl hj⟩, (FF.out.setNew _ _ (Nat.le_refl _) _).setNew _ _ (Nat.le_refl _) _⟩

end Go.Proofs.Ymwhbg
