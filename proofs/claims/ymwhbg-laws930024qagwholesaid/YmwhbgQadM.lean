/-
  The law QAD: its model's functions.
-/
import Derived.Test.YmwhbgQafG
import Derived.Deep.RegionWith
namespace Go.Proofs.Ymwhbg
open Go.RowKit
set_option linter.unusedVariables false
set_option linter.unusedSimpArgs false

set_option maxHeartbeats 1000000 in
theorem front44_any {w : World} {base : Nat} {v : Value} {m : List (Int × Int)} (p q : Int) (h : EntB w base v m) (hm : m.length ≤ 50000) :
    Calls Ybgv.prog 44 #[.agg #[.int .i64 p, .int .i64 q], v] w fun e w' => ∃ v', e = .returned v' ∧ EntB w' w.heap.size v' ((p, q) :: m) ∧ Below w.heap.size w w' := by
  obtain ⟨a, cap, b, rfl, ha, ha2, ha3, _⟩ := h.form
  obtain ⟨i0, hi, hz0, hz1, hz2⟩ := info_parts Ybgv.info29
  have H := hide h
  have HA2 := hide ha2
  have HA3 := hide ha3
  clear h ha ha2 ha3
  go_enter Ybgv.func44, Ybgv.ntmps44
  go_wp2_with (at_make; refine wpList_make_own _ rfl _ _ 25 rfl w.heap.size 29 i0 (.agg #[.int .i64 0, .int .i64 0]) 2 Ybgv.underlying25 hi hz0 hz1 _ _ _ (m.length + 1) rfl rfl (by omega) (by rw [hz2]; omega) (by unfold maxLen; omega) (by simp) ?_)
  intro w0 hown0 hgrow0
  have B0 := ((Below.refl w.heap.size w).alloc (Nat.le_refl _) _).grown hgrow0 (by first | omega | (simp; omega) | simp) (by simp)
  have hsz0 : w.heap.size + 1 ≤ w0.heap.size := by have := hgrow0.size; simp at this; omega
  have q0 : w0.cell? ⟨w.heap.size, 0, none⟩ = some (.int .i64 p) := hgrow0.cell (by simp) (by simp)
  have q1 : w0.cell? ⟨w.heap.size, 1, none⟩ = some (.int .i64 q) := hgrow0.cell (by simp) (by simp)
  clear hgrow0
  go_wp2_with (at_builtin; refine wpList_append_fits _ rfl (.tmp 10) (.tmp 12) 25 rfl w.heap.size 29 i0 2 Ybgv.underlying25 hi hz1 (w.heap.size + 1) 0 (m.length + 1) [] rfl (World.ownsRow.alloc hown0 _) ⟨w0.heap.size, 0, none⟩ 1 1 [.int .i64 p, .int .i64 q] rfl rfl (cells_two _ _ _ _) (ones_two _ _) (by omega) ?_)
  intro w1 hown1 hgrow1
  have B1 : Below w.heap.size w w1 := (B0.alloc (by omega) _).grown hgrow1 (by first | omega | (simp; omega)) (by intro k hk; simp at hk; omega)
  clear hown0 hgrow1 B0 q0 q1
  have hcells : Hid (∀ ad, a = some ad → ∀ j u, (flatE m)[j]? = some u → w1.cell? (ad.add j) = some u) := by
    intro ad had j u hu
    have e1 := HA3.out (by rw [had]; simp)
    rw [e1] at had
    simp at had
    subst had
    rw [addr_add, Nat.zero_add]
    have hr := H.out
    rw [e1] at hr
    exact hr.row B1 j u hu
  go_wp2_with (at_builtin; refine wpList_append_fits_any _ rfl (.tmp 14) (.tmp 15) 25 rfl w.heap.size 29 i0 2 Ybgv.underlying25 hi hz1 (w.heap.size + 1) 1 (m.length + 1) [.int .i64 p, .int .i64 q] rfl hown1 a m.length cap (flatE m) rfl (flatE_length m) (HA2.out) hcells.out (fun u hu => flatE_one u m hu) (by omega) ?_)
  intro w2 hown2 hgrow2
  have B2 : Below w.heap.size w w2 := B1.grown hgrow2 B1.size (by intro k hk; simp at hk; omega)
  have HF := hide (EntB.of (m := (p, q) :: m) hown2 (by simp; omega) rfl)
  have HB2 := hide B2
  clear hown1 hown2 hgrow2 B1 B2 hcells
  go_wp2
  go_ret
  exact ⟨_, rfl, HF.out, HB2.out⟩

/-- Behind the last call: the answer is stored into the result's own block. -/
theorem res_put {w w5 : World} {base N : Nat} {v v5 : Value} {M : List (Int × Int)} (hb : base ≤ w.heap.size) (E5 : EntB w5 N v5 M) (hN : w.heap.size < N) (B : Below w.heap.size w w5) (x y : Value) :
    Res w base v ((w5.setCell ⟨w.heap.size, 0, none⟩ x).setCell ⟨w.heap.size, 1, none⟩ y) v5 M := by
  have hne : v5.ownBlock ≠ some w.heap.size := fun h => by have := (E5.lt _ h).1; omega
  refine ⟨((E5.setOther (p := ⟨w.heap.size, 0, none⟩) hne x).setOther (p := ⟨w.heap.size, 1, none⟩) hne y).down (by omega), (B.setCell (Nat.le_refl _) _).setCell (Nat.le_refl _) _, fun k hk => .inr (by have := (E5.lt _ hk).1; omega)⟩
theorem blk_cells {w : World} {b : Nat} {x y : Value} {t : TypeId} (h : w.heap[b]? = some (.cells #[x, y] t)) : w.cell? ⟨b, 0, none⟩ = some x ∧ w.cell? ⟨b, 1, none⟩ = some y ∧ w.frozen? ⟨b, 0, none⟩ = false ∧ w.frozen? ⟨b, 1, none⟩ = false := by
  simp [World.cell?, World.frozen?, h]
theorem Res.drew {w w' : World} {base : Nat} {v v' : Value} {m : List (Int × Int)} (R : Res w base v w' v' m) : Res w base v w'.drew v' m := ⟨R.ent.drew, R.below.drew, R.own⟩

set_option maxHeartbeats 1000000 in
theorem put42_any {w : World} {base : Nat} {v : Value} {m : List (Int × Int)} (cp k x : Int) (E : EntB w base v m) (hb : base ≤ w.heap.size) (d : distinct m) (hl : (m.length : Int) ≤ cp) (hm : m.length ≤ 50000) :
    Calls Ybgv.prog 42 #[v, .int .i64 cp, .int .i64 k, .int .i64 x] w fun e w' => ∃ v', e = .returned (.tuple #[v', .agg #[.int .i64 (pOut cp m k x).1.1, .int .i64 (pOut cp m k x).1.2], .bool (pOut cp m k x).2]) ∧ Res w base v w' v' (mPut cp m k x) := by
  obtain ⟨a, cap, b, rfl, ha, _, _, _⟩ := E.form
  have HE := hide (E.alloc (.cells #[.int .i64 0, .int .i64 0] 29))
  by_cases hc0 : cp = 0
  · subst hc0
    rw [mPut_zero]
    have hp : pOut 0 m k x = ((k, x), true) := by unfold pOut; rw [if_pos rfl]
    rw [hp]
    have HE2 := hide E
    clear d hl E hp
    go_enter Ybgv.func42, Ybgv.ntmps42
    go_wp2
    refine bodyPost_ret (v := .tuple #[.slice a m.length cap, .agg #[.int .i64 k, .int .i64 x], .bool true]) (by simp [results, Ybgv.results42, go_sem]) rfl ⟨_, rfl, ?_⟩
    exact ⟨HE2.out.alloc _, (Below.refl _ _).alloc (Nat.le_refl _) _, fun k hk => .inl hk⟩
  · have hcb : (cp == 0) = false := by simp [hc0]
    rcases hasK_cases m k d with ⟨k1, k2, k3, k4⟩ | ⟨j, e, k1, k2, k3, k4, k5⟩
    · have K2 := hide k2
      by_cases hfull : (m.length : Int) = cp
      · rw [mPut_full hc0 k1 hfull]
        have hm0 : m ≠ [] := by rintro rfl; simp at hfull; omega
        have E3 := hide (eI_last m hm0)
        have hml : 0 < m.length := List.length_pos_iff.2 hm0
        have hml' : (0 : Int) < (m.length : Int) := by omega
        obtain ⟨o, ho⟩ : ∃ o, m[m.length - 1]? = some o := ⟨m[m.length - 1]'(by omega), by simp⟩
        have hp : pOut cp m k x = (o, true) := by
          unfold pOut
          rw [if_neg hc0, k1, if_neg (by simp), if_pos hfull, List.getLast?_eq_getElem?, ho]; rfl
        rw [hp]
        obtain rfl := ha hml
        obtain ⟨p1, p2⟩ := E.cells ho
        have hbl := (E.lt b rfl).2
        have hge : cp ≤ (m.length : Int) := by omega
        have HE2 := hide (HE.out.alloc (.cells #[.int .i64 o.1, .int .i64 o.2] 29))
        have hl2 : m.dropLast.length ≤ 50000 := by simp; omega
        clear hc0 k1 k2 k3 k4 hm0 d E hp ho ha hfull hl
        go_enter Ybgv.func42, Ybgv.ntmps42
        go_wp2_with fail
        refine (idx43_any k HE.out (by omega)).mono ?_
        rintro e w3 ⟨rfl, rfl⟩
        rw [K2.out]
        go_wp2_with fail
        refine (del45_any _ HE2.out (by omega)).mono ?_
        rintro e w4 ⟨v4, rfl, E4, b4⟩
        rw [E3.out] at E4
        have e0 : w4.heap[w.heap.size]? = some (.cells #[.int .i64 0, .int .i64 0] 29) := by
          rw [b4.block _ (by simp; omega)]
          exact (Below.heap_alloc _ _ _ (by simp)).trans (heap_alloc_new w _)
        have e1 : w4.heap[w.heap.size + 1]? = some (.cells #[.int .i64 o.1, .int .i64 o.2] 29) := by
          rw [b4.block _ (by simp)]
          have := heap_alloc_new (w.alloc (.cells #[.int .i64 0, .int .i64 0] 29)) (.cells #[.int .i64 o.1, .int .i64 o.2] 29)
          rw [World.size_alloc] at this
          exact this
        obtain ⟨y0, y1, y2, y3⟩ := blk_cells e0
        obtain ⟨y4, y5, y6, y7⟩ := blk_cells e1
        have hs4 : w.heap.size + 2 ≤ w4.heap.size := by have := b4.size; simp at this; omega
        have B4 : Below w.heap.size w w4 := (((Below.refl w.heap.size w).alloc (Nat.le_refl _) _).alloc (by simp) _).trans (b4.mono (by simp; omega))
        have HE4 := hide E4
        have HB4 := hide B4
        have HE0 := hide e0
        have HE1 := hide e1
        clear E4 b4 B4 e0 e1 p1 p2
        go_wp2_with fail
        go_region_with (go_at_call 44; refine (front44_any k x HE4.out.drew (by omega)).mono ?_; rintro e w5 ⟨v5, rfl, E5, b5⟩; obtain ⟨z0, z1, z2, z3⟩ := blk_cells ((b5.block _ (by simp; omega)).trans HE0.out); obtain ⟨z4, z5, z6, z7⟩ := blk_cells ((b5.block _ (by simp; omega)).trans HE1.out); have hs5 := b5.size; have HE5 := hide E5; have HB5 := hide b5; clear E5 b5)
        all_goals
          have hR := res_put (v := .slice (some ⟨b, 0, none⟩) m.length cap) hb HE5.out (by simp; omega) (HB4.out.drew.trans (HB5.out.mono (by simp; omega))) (.int .i64 o.1) (.int .i64 o.2)
          have HR := hide hR.drew
          have HR2 := hide hR
          clear hR HE5 HB5 HE4 HB4 HE0 HE1
          go_wp2
          refine bodyPost_ret (v := .tuple #[v5, .agg #[.int .i64 o.1, .int .i64 o.2], .bool true]) (by simp [results, Ybgv.results42, go_sem]; go_simp) rfl ⟨_, rfl, ?_⟩
          first | exact HR2.out | exact HR.out
      · rw [mPut_room hc0 k1 hfull]
        have hp : pOut cp m k x = ((0, 0), false) := by
          unfold pOut; rw [if_neg hc0, k1, if_neg (by simp), if_neg hfull]
        rw [hp]
        have hge : ¬ (cp ≤ (m.length : Int)) := by omega
        have HE2 := hide (HE.out.alloc (.cells #[.int .i64 0, .int .i64 0] 29))
        clear hc0 k1 k2 k3 k4 d E hp ha hfull hl
        go_enter Ybgv.func42, Ybgv.ntmps42
        go_wp2_with fail
        refine (idx43_any k HE.out (by omega)).mono ?_
        rintro e w3 ⟨rfl, rfl⟩
        rw [K2.out]
        go_wp2_with fail
        go_region_with (go_at_call 44; refine (front44_any k x HE2.out.drew (by omega)).mono ?_; rintro e w5 ⟨v5, rfl, E5, b5⟩; obtain ⟨z0, z1, z2, z3⟩ := blk_cells ((b5.block w.heap.size (by simp; omega)).trans ((Below.heap_alloc _ _ _ (by simp)).trans (heap_alloc_new w _))); have hs5 := b5.size; have HE5 := hide E5; have HB5 := hide b5; have q4 := (b5.cell (p := ⟨w.heap.size + 1, 0, none⟩) (by simp)).trans (World.cell?_alloc_at _ _ _ _ (by simp)); have q5 := (b5.cell (p := ⟨w.heap.size + 1, 1, none⟩) (by simp)).trans (World.cell?_alloc_at _ _ _ _ (by simp)); simp at q4 q5; clear E5 b5)
        all_goals
          have hR := res_put (v := .slice a m.length cap) hb HE5.out (by simp; omega) ((((Below.refl w.heap.size w).alloc (Nat.le_refl _) _).alloc (by simp) _).drew.trans (HB5.out.mono (by simp; omega))) (.int .i64 0) (.int .i64 0)
          have HR := hide hR.drew
          have HR2 := hide hR
          clear hR HE5 HB5
          go_wp2
          refine bodyPost_ret (v := .tuple #[v5, .agg #[.int .i64 0, .int .i64 0], .bool false]) (by simp [results, Ybgv.results42, go_sem]; go_simp) rfl ⟨_, rfl, ?_⟩
          first | exact HR2.out | exact HR.out
    · rw [mPut_hit hc0 k1]
      have hp : pOut cp m k x = ((0, 0), false) := by unfold pOut; rw [if_neg hc0, if_pos k1]
      rw [hp]
      have K2 := hide k2
      have K5 := hide k5
      have hjlt := (List.getElem?_eq_some_iff.1 k3).1
      clear hc0 k1 k2 k3 k4 k5 d E hp
      go_enter Ybgv.func42, Ybgv.ntmps42
      go_wp2_with fail
      refine (idx43_any k HE.out (by omega)).mono ?_
      rintro e w3 ⟨rfl, rfl⟩
      rw [K2.out]
      go_wp2_with fail
      refine (del45_any j HE.out (by omega)).mono ?_
      rintro e w4 ⟨v4, rfl, E4, b4⟩
      rw [K5.out] at E4
      have HE4 := hide E4
      have HB4 := hide b4
      have hl4 : (del m k).length ≤ 50000 := Nat.le_trans (List.length_filter_le _ _) hm
      clear E4 b4
      go_wp2_with fail
      refine (front44_any k x HE4.out (by omega)).mono ?_
      rintro e w5 ⟨v5, rfl, E5, b5⟩
      have e0 : w5.heap[w.heap.size]? = some (.cells #[.int .i64 0, .int .i64 0] 29) := by
        have hs4 : w.heap.size + 1 ≤ w4.heap.size := by have := HB4.out.size; simp at this; omega
        rw [b5.block _ (by omega), HB4.out.block _ (by simp)]
        exact heap_alloc_new w _
      obtain ⟨y0, y1, y2, y3⟩ := blk_cells e0
      have hs4 : w.heap.size + 1 ≤ w4.heap.size := by have := HB4.out.size; simp at this; omega
      have B5 : Below w.heap.size w w5 := (((Below.refl w.heap.size w).alloc (Nat.le_refl _) _).trans (HB4.out.mono (by simp))).trans (b5.mono (by omega))
      have hs5 := b5.size
      have HR := hide (fun x y => res_put (v := .slice a m.length cap) hb E5 (by omega) B5 x y)
      clear E5 b5 e0 B5 HE4 HB4
      go_wp2
      refine bodyPost_ret (v := .tuple #[v5, .agg #[.int .i64 0, .int .i64 0], .bool false]) (by simp [results, Ybgv.results42, go_sem]; go_simp) rfl ⟨_, rfl, ?_⟩
      exact HR.out _ _

end Go.Proofs.Ymwhbg
