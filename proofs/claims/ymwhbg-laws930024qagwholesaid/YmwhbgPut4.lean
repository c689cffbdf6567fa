/-
  The contract of Put where a new slot is made; the contract whole.
-/
import Derived.Test.YmwhbgPut3
import Derived.Test.YmwhbgApp
namespace Go.Proofs.Ymwhbg
open Go.RowKit
set_option linter.unusedVariables false
set_option linter.unusedSimpArgs false

/-- The slots with one more. -/
theorem Nodes.snoc {w : World} {base : Nat} {nv nv' : Value} {n : Nat} {K V P X : Nat → Int} {xs : List Value} {k v p x : Int}
    (h2 : ∀ j, j < n → xs[j * 4]? = some (.int .i64 (K j)) ∧ xs[j * 4 + 1]? = some (.int .i64 (V j)) ∧ xs[j * 4 + 2]? = some (.int .i64 (P j)) ∧ xs[j * 4 + 3]? = some (.int .i64 (X j)))
    (hl : xs.length = n * 4) (h : w.ownsRow base 42 4 nv' (n + 1) (xs ++ [.int .i64 k, .int .i64 v, .int .i64 p, .int .i64 x])) :
    Nodes w base nv' (n + 1) (upd K n k) (upd V n v) (upd P n p) (upd X n x) := by
  refine ⟨_, h, fun j hj => ?_⟩
  by_cases e : j = n
  · subst e
    simp only [upd_same]
    refine ⟨?_, ?_, ?_, ?_⟩
    · rw [List.getElem?_append_right (by omega), show j * 4 - xs.length = 0 by omega]; rfl
    · rw [List.getElem?_append_right (by omega), show j * 4 + 1 - xs.length = 1 by omega]; rfl
    · rw [List.getElem?_append_right (by omega), show j * 4 + 2 - xs.length = 2 by omega]; rfl
    · rw [List.getElem?_append_right (by omega), show j * 4 + 3 - xs.length = 3 by omega]; rfl
  · simp only [upd_other _ _ _ _ e]
    have := h2 j (by omega)
    refine ⟨?_, ?_, ?_, ?_⟩
    · rw [List.getElem?_append_left (by omega)]; exact this.1
    · rw [List.getElem?_append_left (by omega)]; exact this.2.1
    · rw [List.getElem?_append_left (by omega)]; exact this.2.2.1
    · rw [List.getElem?_append_left (by omega)]; exact this.2.2.2

/-- The cache with another row of slots hung in. -/
theorem CMem.rehang {w w1 : World} {base cb : Nat} {nv nv' : Value} {n n' : Nat} {K V P X K' V' P' X' : Nat → Int} {h t f sz cp : Int} (c : CMem w base cb nv n K V P X h t f sz cp)
    (e : w1.heap[cb]? = w.heap[cb]?) (r : Nodes w1 base nv' n' K' V' P' X') (ha : nv'.ownBlock ≠ some cb) :
    CMem (w1.setCell ⟨cb, 0, none⟩ nv') base cb nv' n' K' V' P' X' h t f sz cp := by
  have e1 : ∀ o, w1.cell? ⟨cb, o, none⟩ = w.cell? ⟨cb, o, none⟩ := fun o => World.cell?_of_block e
  have e2 : ∀ o, w1.frozen? ⟨cb, o, none⟩ = w.frozen? ⟨cb, o, none⟩ := fun o => World.frozen?_of_block e
  have c0 := (e1 0).trans c.c0
  refine ⟨?_, ?_, ?_, ?_, ?_, ?_, ?_, r.heap (fun k hk => Below.heap_setCell _ _ _ _ (fun e => ha (by rw [hk, e]))), ha, c.bc⟩
  · simpa using cell_put w1 cb 0 0 nv' _ c0 _ c0
  · simpa using cell_put w1 cb 0 1 nv' _ c0 _ ((e1 1).trans c.c1)
  · simpa using cell_put w1 cb 0 2 nv' _ c0 _ ((e1 2).trans c.c2)
  · simpa using cell_put w1 cb 0 3 nv' _ c0 _ ((e1 3).trans c.c3)
  · simpa using cell_put w1 cb 0 4 nv' _ c0 _ ((e1 4).trans c.c4)
  · simpa using cell_put w1 cb 0 5 nv' _ c0 _ ((e1 5).trans c.c5)
  · intro o; rw [World.frozen?_setCell, e2]; exact c.fz o

set_option maxHeartbeats 1000000 in
theorem put_grow {w : World} {B cb : Nat} {nv : Value} {n : Nat} {cp : Int} {m : List (Int × Int)} (key val : Int) (I : Inv w B cb nv n (-1) cp m) (hn : n ≤ 90000) (hcp : cp ≠ 0) (hk : hasK m key = false)
    (hlen : (m.length : Int) ≠ cp) :
    Calls Ybgv.prog 11 #[.pointer (some ⟨cb, 0, none⟩), .int .i64 key, .int .i64 val] w (PutPost w B cb nv n cp m key val) := by
  have hol := hide I.own_lt
  obtain ⟨K, V, P, X, L, F, c, r, rfl, d, l⟩ := I
  have hmiss := miss_of hk
  have hfind := find_any key (c.alloc (.cells #[.int .i64 0, .int .i64 0] 29)) (by omega) r.ltL r.lenL r.dl
  rw [slotOf_miss (fun x hx => hmiss (K x, V x) (List.mem_map.2 ⟨x, hx, rfl⟩))] at hfind
  obtain rfl := r.free_nil
  have hll := r.lenL
  have hg : mPut cp (ents K V L) key val = (key, val) :: ents K V L := by
    unfold mPut; rw [if_neg hcp, hk, if_neg (by simp), if_neg hlen]
  have hpo : pOut cp (ents K V L) key val = ((0, 0), false) := by
    unfold pOut; rw [if_neg hcp, hk, if_neg (by simp), if_neg hlen]
  unfold PutPost
  rw [hpo, hg]
  have hc0 : (cp == 0) = false := beq_eq_false_iff_ne.2 hcp
  have hle : ((L.length : Int) == cp) = false := beq_eq_false_iff_ne.2 (by rw [ents_length] at hlen; exact hlen)
  have c0 := c.c0
  have c3 := c.c3
  have c4 := c.c4
  have c5 := c.c5
  have hlt := c.lt
  have hfz := c.fz
  have hbc := c.bc
  have hne3 : cb ≠ w.heap.size := by omega
  have C := hide c
  obtain ⟨xs, hown, hxs⟩ := c.row
  have HX := hide hxs
  have hxl := hide hown.1
  obtain ⟨a, cap, nb, rfl, ha, ha2, ha3⟩ := c.row.form
  have R := hide r
  have D := hide d
  have HM := hide hmiss
  have HL := hide hlen
  have HLL := hide l
  obtain ⟨i0, hi, hz0, hz1, hz2⟩ := info_parts Ybgv.info42
  clear c r hpo hk hcp hmiss hlen hg d l hxs ha ha2 ha3
  go_enter Ybgv.func11, Ybgv.ntmps11
  go_wp2_with fail
  refine hfind.mono ?_
  rintro e w' ⟨rfl, rfl⟩
  clear hfind
  go_wp2_with fail
  go_region
  go_wp2_with (first | (at_builtin; refine wpList_append_mine _ rfl _ _ 38 rfl B 42 i0 (.agg #[.int .i64 0, .int .i64 0, .int .i64 0, .int .i64 0]) 4 32 Ybgv.underlying38 hi hz0 hz1 hz2 rfl (by decide) _ _ _ rfl (((hown.alloc _).alloc _).alloc _) ⟨w.heap.size + 2, 0, none⟩ 1 1 [.int .i64 0, .int .i64 0, .int .i64 (-1), .int .i64 (-1)] rfl rfl (by decide) ?c1 ?c2 ?c3 ?c4 ?c5 ?_))
  case c1 =>
    intro j u hj
    match j, hj with
    | 0, hj => simp at hj; subst hj; simp [Addr.add, go_sem]
    | 1, hj => simp at hj; subst hj; simp [Addr.add, go_sem]
    | 2, hj => simp at hj; subst hj; simp [Addr.add, go_sem]
    | 3, hj => simp at hj; subst hj; simp [Addr.add, go_sem]
  case c2 => intro u hu; simp at hu; rcases hu with rfl | rfl | rfl | rfl <;> rfl
  case c3 => unfold maxLen; omega
  case c4 => omega
  case c5 => simp; omega
  intro v' w1 hown' hgrow hfresh
  have hex : ∃ g cap', v' = .slice (some ⟨g, 0, none⟩) (n + 1) cap' := by
    rcases hown'.2 with ⟨_, h⟩ | ⟨g, cap', cur, h, _⟩
    · omega
    · exact ⟨g, cap', h⟩
  obtain ⟨g, cap', hv⟩ := hex
  rw [hv] at hown' hfresh ⊢
  clear hv
  have hf : (Value.slice a n cap).ownBlock = some g ∨ w.heap.size + 3 ≤ g := by
    rcases hfresh g rfl with h | h
    · exact .inl h
    · exact .inr (by first | omega | (simp at h; omega))
  have hcbn : ((Value.slice a n cap).ownBlock) ≠ some cb := C.out.apart
  have hg : g ≠ cb := by
    rintro rfl
    rcases hf with h | h
    · exact hcbn h
    · omega
  have eb : w1.heap[cb]? = w.heap[cb]? := by
    rw [hgrow.block cb (by simp; omega) (fun h => hcbn h.symm)]
    exact (Below.heap_alloc _ _ _ (by simp; omega)).trans ((Below.heap_alloc _ _ _ (by simp; omega)).trans (Below.heap_alloc _ _ _ hlt))
  have hN := Nodes.snoc (nv := .slice a n cap) HX.out hxl.out hown'
  have C1 := C.out.rehang eb hN (by simp [Value.ownBlock]; exact hg)
  have hsz : w.heap.size + 3 ≤ w1.heap.size := by have := hgrow.size; simp at this; omega
  have hown1 : ∀ k, k < w.heap.size → own cb (.slice (some ⟨g, 0, none⟩) (n + 1) cap') k → own cb (.slice a n cap) k := by
    rintro k hk (h | h)
    · exact .inl h
    · simp [Value.ownBlock] at h; subst h
      rcases hf with h | h
      · exact .inr h
      · omega
  have FR1 : Fr (own cb (.slice a n cap)) w w1 := ((((((Fr.refl _ w).alloc _).alloc _).alloc _).drew).grown hgrow (fun k _ hk => .inr hk))
  have ho : ∀ k, w.heap.size ≤ k → k < w.heap.size + 3 → ¬ own cb (.slice (some ⟨g, 0, none⟩) (n + 1) cap') k := by
    rintro k hk hk2 (h | h)
    · omega
    · simp [Value.ownBlock] at h; subst h
      rcases hf with h | h
      · have := (hol.out _ (.inr h)).2; omega
      · omega
  have ho2 : ∀ k, w.heap.size ≤ k → ¬ (Value.slice a n cap).ownBlock = some k := by
    intro k hk h
    have := (hol.out _ (.inr h)).2; omega
  have b0 : w1.heap[w.heap.size]? = some (.cells #[.int .i64 0, .int .i64 0] 29) := by
    rw [hgrow.block _ (by simp; omega) (fun h => ho2 _ (Nat.le_refl _) h.symm)]
    exact (Below.heap_alloc _ _ _ (by simp; omega)).trans ((Below.heap_alloc _ _ _ (by simp)).trans (heap_alloc_new w _))
  have b1 : w1.heap[w.heap.size + 1]? = some (.cells #[.int .i64 0, .int .i64 0] 29) := by
    rw [hgrow.block _ (by simp) (fun h => ho2 _ (by omega) h.symm)]
    refine (Below.heap_alloc _ _ _ (by simp)).trans ?_
    have := heap_alloc_new (w.alloc (.cells #[.int .i64 0, .int .i64 0] 29)) (.cells #[.int .i64 0, .int .i64 0] 29)
    rw [World.size_alloc] at this
    exact this
  have d0 : w1.cell? ⟨cb, 0, none⟩ = some (.slice a n cap) := (World.cell?_of_block eb).trans c0
  have d1 : ∀ o, w1.frozen? ⟨cb, o, none⟩ = false := fun o => (World.frozen?_of_block eb).trans (hfz o)
  obtain ⟨gk, gv, _, _⟩ := hN.cells (j := n) (by omega)
  have gf := hN.frozen
  have hg' : cb ≠ g := fun h => hg h.symm
  have HC := hide C1
  have HN := hide hN
  have HO := hide ho
  have HB0 := hide b0
  have HB1 := hide b1
  have HF1 := hide FR1
  have HW1 := hide hown1
  have hgN : g ≠ w.heap.size := fun h => ho g (by omega) (by omega) (own_nb _ _ _ _)
  have hgN1 : g ≠ w.heap.size + 1 := fun h => ho g (by omega) (by omega) (own_nb _ _ _ _)
  clear hown' hgrow hfresh hown hN C1 eb c0 c3 c4 c5 hfz hcbn ho ho2 b0 b1 FR1 hown1 hf hi hz0 hz1 hz2
  go_wp2_with fail
  refine (push_any n ((HC.out.setK n (by omega) key).setV n (by omega) val) (by omega) (by omega) (hd_slot (fun x hx => Nat.lt_succ_of_lt (R.out.ltL x hx))) (hd_ne (fun hx => Nat.lt_irrefl _ (R.out.ltL n hx))) (by omega) (by omega)).mono ?_
  rintro e w2 ⟨rfl, c2, f2⟩
  have hsn : n ∉ L := fun hx => Nat.lt_irrefl _ (R.out.ltL n hx)
  have J0 : ∀ w', CMem w' B cb (.slice (some ⟨g, 0, none⟩) (n + 1) cap') (n + 1) (upd (upd K n 0) n key) (upd (upd V n 0) n val) (updI (upd (upd P n (-1)) n (-1)) (hd L) n) (upd (upd X n (-1)) n (hd L)) n (orI (hd L) n (lst L)) (-1) (L.length + 1) cp →
      Inv w' B cb (.slice (some ⟨g, 0, none⟩) (n + 1) cap') (n + 1) (-1) cp ((key, val) :: ents K V L) := fun w' cw =>
    grow_inv R.out (fun j hj => ⟨upd_other _ _ _ _ (by omega), upd_other _ _ _ _ (by omega), upd_other _ _ _ _ (by omega), upd_other _ _ _ _ (by omega)⟩) D.out HM.out (by have h1 := HL.out; have h2 := HLL.out; omega) cw
  have hsz2 := f2.size
  simp only [World.size_setCell] at hsz2
  have e0 : w2.heap[w.heap.size]? = some (.cells #[.int .i64 0, .int .i64 0] 29) := by
    rw [f2.block _ (by simp; omega) (HO.out _ (by omega) (by omega)), Below.heap_setCell _ _ _ _ (by simp; omega), Below.heap_setCell _ _ _ _ (by simp; omega), Below.heap_setCell _ _ _ _ (by simp; omega)]
    exact HB0.out
  have e1 : w2.heap[w.heap.size + 1]? = some (.cells #[.int .i64 0, .int .i64 0] 29) := by
    rw [f2.block _ (by simp; omega) (HO.out _ (by omega) (by omega)), Below.heap_setCell _ _ _ _ (by simp; omega), Below.heap_setCell _ _ _ _ (by simp; omega), Below.heap_setCell _ _ _ _ (by simp; omega)]
    exact HB1.out
  have q0 : w2.cell? ⟨w.heap.size, 0, none⟩ = some (.int .i64 0) := by simp [World.cell?, e0]
  have q1 : w2.cell? ⟨w.heap.size, 1, none⟩ = some (.int .i64 0) := by simp [World.cell?, e0]
  have q2 : w2.cell? ⟨w.heap.size + 1, 0, none⟩ = some (.int .i64 0) := by simp [World.cell?, e1]
  have q3 : w2.cell? ⟨w.heap.size + 1, 1, none⟩ = some (.int .i64 0) := by simp [World.cell?, e1]
  have q4 : w2.frozen? ⟨w.heap.size, 0, none⟩ = false := by simp [World.frozen?, e0]
  have q5 : w2.frozen? ⟨w.heap.size, 1, none⟩ = false := by simp [World.frozen?, e0]
  have J := hide (J0 _ ((c2.setOther (p := ⟨w.heap.size, 0, none⟩) (HO.out _ (by simp) (by simp)) (.int .i64 0)).setOther (p := ⟨w.heap.size, 1, none⟩) (HO.out _ (by simp) (by simp)) (.int .i64 0)))
  have FF : Hid (Fr (own cb (.slice a n cap)) w w2) :=
    (((HF1.out.setCb _ _).setCell (p := ⟨g, n * 4, none⟩) (fun h => HW1.out g h (own_nb _ _ _ _)) _).setCell (p := ⟨g, n * 4 + 1, none⟩) (fun h => HW1.out g h (own_nb _ _ _ _)) _).trans' f2 HW1.out
  have HFR : Hid (∀ j, (Value.slice (some ⟨g, 0, none⟩) (n + 1) cap').ownBlock = some j → (Value.slice a n cap).ownBlock = some j ∨ w.heap.size ≤ j) := by
    intro j hj
    by_cases h : w.heap.size ≤ j
    · exact .inr h
    · rcases HW1.out j (by omega) (.inr hj) with h' | h'
      · simp [Value.ownBlock] at hj; omega
      · exact .inl h'
  clear J0 c2 f2 e0 e1 HO HB0 HB1 HF1 HW1 HC HN C R D HM HL HLL gk gv gf d0 d1
  go_wp2
  refine bodyPost_ret (v := .tuple #[.agg #[.int .i64 0, .int .i64 0], .bool false]) (by simp [results, Ybgv.results11, go_sem]; go_simp) rfl ⟨rfl, ⟨_, n + 1, _, J.out, by omega, HFR.out⟩, (FF.out.setNew _ _ (Nat.le_refl _) _).setNew _ _ (Nat.le_refl _) _⟩

/-- The contract of Put. -/
theorem put_any {w : World} {B cb : Nat} {nv : Value} {n : Nat} {f cp : Int} {m : List (Int × Int)} (key val : Int) (I : Inv w B cb nv n f cp m) (hn : n ≤ 90000) :
    Calls Ybgv.prog 11 #[.pointer (some ⟨cb, 0, none⟩), .int .i64 key, .int .i64 val] w (PutPost w B cb nv n cp m key val) := by
  by_cases h0 : cp = 0
  · subst h0; exact put_zero key val I
  · cases hk : hasK m key with
    | true => exact put_hit key val I (by omega) h0 hk
    | false =>
      by_cases hl : (m.length : Int) = cp
      · exact put_full key val I (by omega) h0 hk hl
      · by_cases hf : f = -1
        · subst hf; exact put_grow key val I hn h0 hk hl
        · exact put_free key val I (by omega) h0 hk hl hf

end Go.Proofs.Ymwhbg
