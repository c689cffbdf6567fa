/-
  The law QAF: its check.
-/
import Derived.Test.YmwhbgQafG
namespace Go.Proofs.Ymwhbg
open Go.RowKit
set_option linter.unusedVariables false
set_option linter.unusedSimpArgs false

theorem Ybgv.info4 : (Ybgv.prog.info? 4).map (fun i => (i.zero, i.size, i.bytes)) = some (some (.bool false), 1, 1) := by kernel_rfl

/-- The row of marks: S has been seen. -/
def Seen (w : World) (base sb n : Nat) (S : List Nat) : Prop :=
  ∃ xs : List Value, w.ownsRow base 4 1 (.slice (some ⟨sb, 0, none⟩) n n) n xs ∧ ∀ j, j < n → xs[j]? = some (.bool (decide (j ∈ S)))

theorem Seen.start {w : World} {base sb n : Nat} (h : w.ownsRow base 4 1 (.slice (some ⟨sb, 0, none⟩) n n) n (madeCells #[.bool false] n).toList) : Seen w base sb n [] := by
  refine ⟨_, h, fun j hj => ?_⟩
  simp [madeCells, hj, Nat.mod_one]
theorem Seen.heap {w w' : World} {base sb n : Nat} {S : List Nat} (h : Seen w base sb n S) (e : w'.heap[sb]? = w.heap[sb]?) : Seen w' base sb n S := by
  obtain ⟨xs, h1, h2⟩ := h
  exact ⟨xs, ownsRow_heap h1 (fun k hk => by simp [Value.ownBlock] at hk; subst hk; exact e), h2⟩
theorem Seen.lt {w : World} {base sb n : Nat} {S : List Nat} (h : Seen w base sb n S) : base ≤ sb ∧ sb < w.heap.size := by
  obtain ⟨xs, h1, h2⟩ := h
  exact h1.lt sb rfl
theorem Seen.cell {w : World} {base sb n : Nat} {S : List Nat} (h : Seen w base sb n S) {j : Nat} (hj : j < n) : w.cell? ⟨sb, j, none⟩ = some (.bool (decide (j ∈ S))) := by
  obtain ⟨xs, h1, h2⟩ := h
  rw [h1.cellAt _ (by omega), h2 j hj]
theorem Seen.frozen {w : World} {base sb n : Nat} {S : List Nat} (h : Seen w base sb n S) (j : Nat) : w.frozen? ⟨sb, j, none⟩ = false := by
  obtain ⟨xs, h1, h2⟩ := h
  exact h1.frozenAt j
theorem Seen.mark {w : World} {base sb n : Nat} {S : List Nat} (h : Seen w base sb n S) (s : Nat) (hs : s < n) : Seen (w.setCell ⟨sb, s, none⟩ (.bool true)) base sb n (S ++ [s]) := by
  obtain ⟨xs, h1, h2⟩ := h
  have hl := h1.1
  refine ⟨_, (h1.stored _ _).1, fun j hj => ?_⟩
  rw [List.getElem?_set]
  by_cases e : s = j
  · subst e; rw [if_pos rfl, if_pos (by omega)]; simp
  · rw [if_neg e, h2 j hj]
    have e' : ¬ j = s := fun h => e h.symm
    simp [e']

theorem ents_nth {K V : Nat → Int} {A B : List Nat} {s : Nat} : (ents K V (A ++ s :: B))[A.length]? = some (K s, V s) := by
  simp [ents]

set_option maxHeartbeats 1000000 in
set_option maxRecDepth 100000 in
theorem check28_any {w : World} {B B' cb : Nat} {nv v : Value} {n : Nat} {f cp : Int} {m : List (Int × Int)} (I : Inv w B cb nv n f cp m) (E : EntB w B' v m) (hn : n ≤ 100000) :
    Calls Ybgv.prog 28 #[.pointer (some ⟨cb, 0, none⟩), .int .i64 cp, v] w fun e w' => e = .returned (.bool true) ∧ Below w.heap.size w w' := by
  obtain ⟨K, V, P, X, L, F, c, r, rfl, d, l⟩ := I
  obtain ⟨a, cap, b, rfl, ha, _, _, _⟩ := E.form
  obtain ⟨an, ncap, nb, rfl, hna, _, _⟩ := c.row.form
  have hll := r.lenL
  have hlen := r.len
  rw [ents_length] at *
  have c0 := c.c0
  have c1 := c.c1
  have c2 := c.c2
  have c3 := c.c3
  have c4 := c.c4
  have c5 := c.c5
  have hcl := c.lt
  have HC := hide c
  have HE := hide E
  have HA := hide ha
  have HNA := hide hna
  have HR := hide r
  obtain ⟨i0, hi, hz0, hz1, hz2⟩ := info_parts Ybgv.info4
  clear c E ha hna r d l
  go_enter Ybgv.func28, Ybgv.ntmps28
  go_wp2_with (at_make; refine wpList_make_full _ rfl _ _ 89 rfl w.heap.size 4 i0 (.bool false) 1 Ybgv.underlying89 hi hz0 hz1 _ _ _ _ n rfl rfl rfl rfl (by rw [hz2]; omega) (by unfold maxLen; omega) (Nat.le_refl _) ?_)
  intro ws hown0 hgrow0
  have S0 := hide (Seen.start hown0)
  have B0 := (Below.refl w.heap.size w).grown hgrow0 (Nat.le_refl _) (by simp)
  have c1' := (B0.cell (p := ⟨cb, 1, none⟩) hcl).trans c1
  have HB0 := hide B0
  clear hown0 hgrow0 B0 c0 c1 c2 c3 c4 c5 hi hz0 hz1 hz2
  go_wp2
  clear c1'
  go_loopw [9, 10, 11] (fun i p k wr => ∃ A D : List Nat, L = A ++ D ∧ i = .int .i64 (hd D) ∧ p = .int .i64 (lst A) ∧ k = .int .i64 A.length ∧ Seen wr w.heap.size w.heap.size n A ∧ Below w.heap.size w wr) (fun _ _ k _ => L.length - (intOf k).toNat)
  case atStart => exact ⟨[], L, rfl, rfl, rfl, rfl, S0.out, HB0.out⟩
  case round =>
    clear S0 HB0
    obtain ⟨A, D, hAD, rfl, rfl, rfl, s1, b1⟩ := hrel
    have c' := HC.out.below b1
    have c0 := c'.c0
    cases D with
    | nil =>
      have hlt : ¬ ((A.length : Int) < L.length) := by subst hAD; simp
      have hLA : L = A := by simpa using hAD
      have ht : (lst L != lst A) = false := by rw [hLA]; simp
      have c2 := c'.c2
      have c3 := c'.c3
      have hf := HR.out.sl.1
      rw [← hLA] at s1
      have HS1 := hide s1
      have HB1 := hide b1
      have hlen2 : L.length + F.length = n := hlen
      clear hAD hLA b1 c' s1
      rw [hd_nil]
      go_wp2
      go_loopw [13, 14] (fun k f2 wr => ∃ A D : List Nat, F = A ++ D ∧ f2 = .int .i64 (hd D) ∧ k = .int .i64 A.length ∧ Seen wr w.heap.size w.heap.size n (L ++ A) ∧ Below w.heap.size w wr) (fun k _ _ => F.length - (intOf k).toNat)
      case atStart => exact ⟨[], F, rfl, rfl, rfl, by simpa using HS1.out, HB1.out⟩
      case round =>
        clear c0 c2 c3 hf ht HB1 HS1
        obtain ⟨A2, D2, hAD2, rfl, rfl, s2, b2⟩ := hrel
        have c' := HC.out.below b2
        have c0 := c'.c0
        cases D2 with
        | nil =>
          have hFA : F.length = A2.length := by rw [hAD2]; simp
          have hend : ((A2.length : Int) + L.length == (n : Int)) = true := by rw [beq_iff_eq]; omega
          have hb2 : A2.length ≤ 100000 := by omega
          have HB2 := hide b2
          clear hAD2 b2 c' c0 hFA s2
          rw [hd_nil]
          go_wp2
          go_ret
          exact ⟨rfl, HB2.out⟩
        | cons s D2 =>
          have hs : s < n := HR.out.lt s (by simp [hAD2])
          have hsn : (s : Int) < (n : Int) := by omega
          have hs0 : ¬ ((s : Int) < 0) := by omega
          have hsb : ((s : Int) != -1) = true := by rw [bne_iff_ne]; omega
          have hal : A2.length < F.length := by rw [hAD2]; simp
          have hns : s ∉ L ++ A2 := by
            have nd := HR.out.nd
            rw [hAD2, ← List.append_assoc] at nd
            intro hmem
            exact (List.nodup_append.1 nd).2.2 s hmem s (by simp) rfl
          have sc := s2.cell hs
          have hdec : decide (s ∈ L ++ A2) = false := by simpa using hns
          rw [hdec] at sc
          have sf := s2.frozen
          have hsl := s2.lt.2
          obtain rfl := HNA.out (by omega)
          obtain ⟨_, _, _, gx⟩ := c'.row.cells hs
          rw [HR.out.sl.2 A2 s D2 hAD2] at gx
          have hnb : nb ≠ w.heap.size := by have := (HC.out.row.lt nb rfl).2; omega
          have hcb : cb ≠ w.heap.size := by omega
          have HAD := hide hAD2
          have HB2 := hide b2
          have HS2 := hide (s2.mark s hs)
          clear hAD2 b2 c' s2 hns hdec
          rw [hd_cons]
          go_wp2
          go_roundw
          case rel => exact ⟨A2 ++ [s], D2, by rw [HAD.out]; simp, rfl, by simp, by rw [← List.append_assoc]; exact HS2.out, HB2.out.setCell (Nat.le_refl _) _⟩
          case measure => simp [intOf]; omega
    | cons s D =>
      have hlt : (A.length : Int) < L.length := by subst hAD; simp; omega
      have hlt2 : A.length < L.length := by omega
      have hs : s < n := HR.out.ltL s (by simp [hAD])
      have hsn : (s : Int) < (n : Int) := by omega
      have hs0 : ¬ ((s : Int) < 0) := by omega
      have hns : s ∉ A := by
        have nd := (List.nodup_append.1 HR.out.nd).1
        rw [hAD] at nd
        intro hmem
        exact (List.nodup_append.1 nd).2.2 s hmem s (by simp) rfl
      have sc := s1.cell hs
      have hdec : decide (s ∈ A) = false := by simpa using hns
      rw [hdec] at sc
      have sf := s1.frozen
      have hsl := s1.lt.2
      obtain rfl := HNA.out (by omega)
      obtain rfl := HA.out (by omega)
      have hE := HE.out
      unfold EntB at hE
      rw [ents_length] at hE
      have hE2 : EntB w B' (.slice (some ⟨b, 0, none⟩) (ents K V L).length cap) (ents K V L) := by unfold EntB; rw [ents_length]; exact hE
      obtain ⟨e1, e2⟩ := (hE2.below b1).cells (j := A.length) (e := (K s, V s)) (by rw [hAD]; exact ents_nth)
      have hbb := (hE2.lt b rfl).2
      obtain ⟨gk, gv, gp, gx⟩ := c'.row.cells hs
      obtain ⟨hp, hx⟩ := HR.out.dl A s D hAD
      rw [hp] at gp
      rw [hx] at gx
      have hnb : nb ≠ w.heap.size := by have := (HC.out.row.lt nb rfl).2; omega
      have hnbl := (HC.out.row.lt nb rfl).2
      have hcb : cb ≠ w.heap.size := by omega
      have hbn : b ≠ w.heap.size := by omega
      have hbw : b < wr.heap.size := by omega
      have hbw2 : b ≠ wr.heap.size := by omega
      have HAD := hide hAD
      have HB1 := hide b1
      have HS1 := hide (s1.mark s hs)
      clear hAD b1 c' hE hE2 hp hx s1 hns hdec
      rw [hd_cons]
      go_wp2
      go_quiet (fail)
      go_wp2
      go_roundw
      case rel => exact ⟨A ++ [s], D, by rw [HAD.out]; simp, rfl, by rw [lst_snoc], by simp, (HS1.out.heap (Below.heap_alloc _ _ _ (by simp; omega))), ((HB1.out.setCell (Nat.le_refl _) _).alloc (by simp; omega) _).trans ⟨rfl, rfl, rfl, Nat.le_refl _, fun _ _ => rfl⟩⟩
      case measure => simp [intOf]; omega

end Go.Proofs.Ymwhbg
