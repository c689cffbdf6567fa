/-
  The law QAD: its reading of a cache.
-/
import Derived.Test.YmwhbgQadM
import Derived.Test.YmwhbgQafC
namespace Go.Proofs.Ymwhbg
open Go.RowKit
set_option linter.unusedVariables false
set_option linter.unusedSimpArgs false

set_option maxHeartbeats 1000000 in
set_option maxRecDepth 100000 in
theorem read46_any {w : World} {B cb : Nat} {nv : Value} {n : Nat} {f cp : Int} {m : List (Int × Int)} (I : Inv w B cb nv n f cp m) (hn : n ≤ 100000) :
    Calls Ybgv.prog 46 #[.pointer (some ⟨cb, 0, none⟩)] w fun e w' => ∃ v', e = .returned (.tuple #[v', .bool true]) ∧ EntB w' w.heap.size v' m ∧ Below w.heap.size w w' := by
  obtain ⟨K, V, P, X, L, F, c, r, rfl, d, l⟩ := I
  obtain ⟨an, ncap, nb, rfl, hna, _, _⟩ := c.row.form
  have hll := r.lenL
  have hlen := r.len
  rw [ents_length] at *
  have c0 := c.c0
  have c1 := c.c1
  have c4 := c.c4
  have hcl := c.lt
  have HC := hide c
  have HNA := hide hna
  have HR := hide r
  have t1 : ¬ ((L.length : Int) < 0) := by omega
  have t2 : ¬ ((n : Int) < (L.length : Int)) := by omega
  have hnbl : 0 < n → nb < w.heap.size := fun hp => by
    have e := hna hp
    have h2 := c.row
    rw [e] at h2
    exact (h2.lt nb rfl).2
  obtain ⟨i0, hi, hz0, hz1, hz2⟩ := info_parts Ybgv.info29
  clear c hna r d l
  go_enter Ybgv.func46, Ybgv.ntmps46
  go_wp2_with fail
  go_quiet (fail)
  go_wp2_with (at_make; refine wpList_make_own _ rfl _ _ 25 rfl w.heap.size 29 i0 (.agg #[.int .i64 0, .int .i64 0]) 2 Ybgv.underlying25 hi hz0 hz1 _ _ _ L.length rfl rfl (by omega) (by rw [hz2]; omega) (by unfold maxLen; omega) (Nat.le_refl _) ?_)
  intro ws hown0 hgrow0
  have E0 := hide (show EntB ws w.heap.size (.slice (some ⟨w.heap.size, 0, none⟩) 0 L.length) [] from hown0)
  have Bq : Below w.heap.size w (w.drewN nq) := ⟨rfl, rfl, rfl, Nat.le_refl _, fun _ _ => rfl⟩
  have B0 : Below w.heap.size w ws := Bq.grown hgrow0 (Nat.le_refl _) (fun k hk => by cases hk)
  have c1' := (B0.cell (p := ⟨cb, 1, none⟩) hcl).trans c1
  have HB0 := hide B0
  clear hown0 hgrow0 B0 Bq c0 c1 c4
  go_wp2
  clear c1'
  go_loopw [4, 5, 6, 7] (fun o p i k wr => ∃ A D : List Nat, L = A ++ D ∧ i = .int .i64 (hd D) ∧ p = .int .i64 (lst A) ∧ k = .int .i64 A.length ∧ EntB wr w.heap.size o (ents K V A) ∧ Below w.heap.size w wr) (fun _ _ _ k _ => L.length - (intOf k).toNat)
  case atStart => exact ⟨[], L, rfl, rfl, rfl, rfl, E0.out, HB0.out⟩
  case round =>
    clear E0 HB0
    obtain ⟨A, D, hAD, rfl, rfl, rfl, s1, b1⟩ := hrel
    have c' := HC.out.below b1
    have c0 := c'.c0
    have c4 := c'.c4
    cases D with
    | nil =>
      have hlt : ¬ ((A.length : Int) < L.length) := by subst hAD; simp
      have hLA : L = A := by simpa using hAD
      have ht : (lst L != lst A) = false := by rw [hLA]; simp
      have c2 := c'.c2
      have c3 := c'.c3
      have hf := HR.out.sl.1
      rw [← hLA] at s1
      have HS1 := hide s1
      have HB1 := hide b1
      have hlen2 : L.length + F.length = n := hlen
      clear hAD hLA b1 c' s1
      rw [hd_nil]
      go_wp2
      go_loopw [8, 9] (fun f2 k wr2 => ∃ A D : List Nat, F = A ++ D ∧ f2 = .int .i64 (hd D) ∧ k = .int .i64 A.length ∧ wr2 = wr) (fun _ k _ => F.length - (intOf k).toNat)
      case atStart => exact ⟨[], F, rfl, rfl, rfl, rfl⟩
      case round =>
        obtain ⟨A2, D2, hAD2, rfl, rfl, rfl⟩ := hrel
        have c' := HC.out.below HB1.out
        clear c2 c3 hf ht
        cases D2 with
        | nil =>
          have hFA : F.length = A2.length := by rw [hAD2]; simp
          have hend : ((A2.length : Int) + L.length != (n : Int)) = false := by rw [bne_eq_false_iff_eq]; omega
          have hb2 : A2.length ≤ 100000 := by omega
          clear hAD2 c' hFA
          rw [hd_nil]
          by_cases hq : (A2.length : Int) < (n : Int)
          · go_wp2
            go_quiet (fail)
            go_wp2
            go_ret2
            exact ⟨_, rfl, HS1.out.heap (fun _ _ => rfl), HB1.out.trans ⟨rfl, rfl, rfl, Nat.le_refl _, fun _ _ => rfl⟩⟩
          · go_wp2
            go_quiet (fail)
            go_wp2
            go_ret2
            exact ⟨_, rfl, HS1.out.heap (fun _ _ => rfl), HB1.out.trans ⟨rfl, rfl, rfl, Nat.le_refl _, fun _ _ => rfl⟩⟩
        | cons s D2 =>
          have hs : s < n := HR.out.lt s (by simp [hAD2])
          have hsn : (s : Int) < (n : Int) := by omega
          have hs0 : ¬ ((s : Int) < 0) := by omega
          have hsb : ((s : Int) != -1) = true := by rw [bne_iff_ne]; omega
          have hal : A2.length < F.length := by rw [hAD2]; simp
          have hal2 : (A2.length : Int) < (n : Int) := by omega
          obtain rfl := HNA.out (by omega)
          obtain ⟨_, _, _, gx⟩ := c'.row.cells hs
          rw [HR.out.sl.2 A2 s D2 hAD2] at gx
          have HAD := hide hAD2
          clear hAD2 c'
          rw [hd_cons]
          go_wp2
          go_roundw
          case rel => exact ⟨A2 ++ [s], D2, by rw [HAD.out]; simp, rfl, by simp, by trivial⟩
          case measure => simp [intOf]; omega
    | cons s D =>
      have hlt : (A.length : Int) < L.length := by subst hAD; simp; omega
      have hlt2 : A.length < L.length := by omega
      have hs : s < n := HR.out.ltL s (by simp [hAD])
      have hsn : (s : Int) < (n : Int) := by omega
      have hs0 : ¬ ((s : Int) < 0) := by omega
      have hnbw := hnbl (by omega)
      have hws := b1.size
      have hle : (ents K V A).length ≤ 100000 := by rw [ents_length]; omega
      obtain rfl := HNA.out (by omega)
      obtain ⟨gk, gv, gp, gx⟩ := c'.row.cells hs
      obtain ⟨hp, hx⟩ := HR.out.dl A s D hAD
      rw [hp] at gp
      rw [hx] at gx
      have hcw : cb < wr.heap.size := by omega
      have hnw : nb < wr.heap.size := by omega
      have HAD := hide hAD
      have HB1 := hide b1
      clear hAD b1 c' hp hx
      rw [hd_cons]
      go_wp2_with (at_builtin; refine wpList_append_own _ rfl _ _ 25 rfl w.heap.size 29 i0 (.agg #[.int .i64 0, .int .i64 0]) 2 16 Ybgv.underlying25 hi hz0 hz1 hz2 rfl (by decide) _ _ _ rfl (World.ownsRow.alloc s1 _) ⟨wr.heap.size, 0, none⟩ 1 1 [.int .i64 (K s), .int .i64 (V s)] rfl rfl (cells_two _ _ _ _) (ones_two _ _) (by unfold maxLen; omega) (by omega) (by first | omega | (simp; omega)) ?_)
      intro v' w1 hown' hgrow _
      have R1 := hide (show EntB w1 w.heap.size v' (ents K V (A ++ [s])) by
        rw [show ents K V (A ++ [s]) = ents K V A ++ [(K s, V s)] by simp [ents]]
        exact EntB.snoc hown' (by first | omega | (simp; omega) | (simp; done)))
      have R2 : Below w.heap.size w w1 := (HB1.out.alloc (by omega) _).grown hgrow (by first | omega | (simp; omega)) (fun q hq => (World.ownsRow.lt s1 q hq).1)
      have c2' := HC.out.below R2
      have c0' := c2'.c0
      obtain ⟨_, _, _, gx'⟩ := c2'.row.cells hs
      obtain ⟨hp, hx⟩ := HR.out.dl A s D HAD.out
      rw [hx] at gx'
      have HR2 := hide R2
      clear hown' hgrow R2 c2' gk gv gp gx c0 c4 s1 hp hx
      go_wp2
      go_roundw
      case rel => exact ⟨A ++ [s], D, by rw [HAD.out]; simp, rfl, by rw [lst_snoc], by simp, R1.out, HR2.out⟩
      case measure => simp [intOf]; omega

end Go.Proofs.Ymwhbg
