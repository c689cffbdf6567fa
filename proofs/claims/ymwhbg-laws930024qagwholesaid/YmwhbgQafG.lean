/-
  The law QAF: its model's Get and Remove.
-/
import Derived.Test.YmwhbgQafP
namespace Go.Proofs.Ymwhbg
open Go.RowKit
set_option linter.unusedVariables false
set_option linter.unusedSimpArgs false

/-- The cells of a slice of entries, in a later world. -/
theorem EntB.row {w : World} {base b cap n : Nat} {m : List (Int × Int)} (h : EntB w base (.slice (some ⟨b, 0, none⟩) n cap) m) {w' : World} (hb : Below w.heap.size w w') :
    ∀ j u, (flatE m)[j]? = some u → w'.cell? ⟨b, j, none⟩ = some u := by
  intro j u hu
  have := World.ownsRow.cells h (g := b) rfl j u hu
  have ha : (⟨b, 0, none⟩ : Addr).add j = ⟨b, j, none⟩ := by unfold Addr.add; split <;> simp_all
  rw [ha] at this
  rw [hb.cell (p := ⟨b, j, none⟩) (h.lt b rfl).2]
  simpa using this

theorem EntB.of {w : World} {base N : Nat} {v : Value} {xs : List Value} {m : List (Int × Int)} (h : w.ownsRow base 29 2 v N xs) (hN : N = m.length) (hx : xs = flatE m) : EntB w base v m := by
  subst hN; subst hx; exact h

theorem addr_add (b o j : Nat) : (⟨b, o, none⟩ : Addr).add j = ⟨b, o + j, none⟩ := by unfold Addr.add; split <;> simp_all

set_option maxHeartbeats 1000000 in
theorem get26_any {w : World} {base : Nat} {v : Value} {m : List (Int × Int)} (k : Int) (E : EntB w base v m) (hb : base ≤ w.heap.size) (d : distinct m) (hm : m.length ≤ 50000) :
    Calls Ybgv.prog 26 #[v, .int .i64 k] w fun e w' => ∃ v', e = .returned v' ∧ Res w base v w' v' (mGet m k) := by
  obtain ⟨a, cap, b, rfl, ha, _, _, hcl⟩ := E.form
  have HE := hide E
  have HA := hide ha
  have HD := hide d
  obtain ⟨i0, hi, hz0, hz1, hz2⟩ := info_parts Ybgv.info29
  clear E ha d
  go_enter Ybgv.func26, Ybgv.ntmps26
  go_wp2
  go_loop [5] (fun i => ∃ A D, m = A ++ D ∧ (∀ s ∈ A, s.1 ≠ k) ∧ i = .int .i64 A.length) (fun i => m.length - (intOf i).toNat)
  case atStart => exact ⟨[], m, rfl, by simp, rfl⟩
  case round =>
    obtain ⟨A, D, hAD, hA, rfl⟩ := hrel
    cases D with
    | nil =>
      have hlt : ¬ ((A.length : Int) < m.length) := by subst hAD; simp
      have HR : Hid (mGet m k = m) := by subst hAD; rw [List.append_nil]; exact mGet_miss (hasK_none hA)
      clear hAD hA
      go_wp2
      go_ret
      exact ⟨_, rfl, by rw [HR.out]; exact Res.same HE.out⟩
    | cons e D =>
      have hml : m.length = A.length + D.length + 1 := by rw [hAD]; simp; omega
      have hlt : (A.length : Int) < m.length := by omega
      obtain rfl := HA.out (by omega)
      have HB0 := hide (Below.refl w.heap.size w)
      obtain ⟨h1, h2⟩ := HE.out.cells (j := A.length) (e := e) (by subst hAD; simp)
      have hbl := (HE.out.lt b rfl).2
      have HAD : Hid (m = A ++ e :: D) := hAD
      have HML := hide hml
      by_cases he : e.1 = k
      · have hb2 : (e.1 == k) = true := by simp [he]
        have HG : Hid (mGet m k = e :: (A ++ D)) := by
          unfold Hid
          have d := HD.out
          rw [hAD] at d ⊢
          rw [mGet_hit (hasK_some he), valOf_some hA he, del_some hA he d, ← he]
        clear he hA hAD hml
        have hAl : A.length + D.length + 1 ≤ 50000 := by have := HML.out; omega
        go_wp2_with (at_make; refine wpList_make_own _ rfl _ _ 25 rfl w.heap.size 29 i0 (.agg #[.int .i64 0, .int .i64 0]) 2 Ybgv.underlying25 hi hz0 hz1 _ _ _ m.length rfl rfl (by omega) (by rw [hz2]; omega) (by unfold maxLen; omega) (Nat.le_refl _) ?_)
        intro w0 hown0 hgrow0
        have B0 := (Below.refl w.heap.size w).grown hgrow0 (Nat.le_refl _) (by simp)
        have h1' := (B0.cell (p := ⟨b, A.length * 2, none⟩) hbl).trans h1
        have h2' := (B0.cell (p := ⟨b, A.length * 2 + 1, none⟩) hbl).trans h2
        have hsz0 : w.heap.size ≤ w0.heap.size := hgrow0.size
        clear hgrow0 h1 h2
        go_wp2_with (at_builtin; refine wpList_append_fits _ rfl (.tmp 23) (.tmp 28) 25 rfl w.heap.size 29 i0 2 Ybgv.underlying25 hi hz1 w.heap.size 0 m.length [] rfl (World.ownsRow.alloc hown0 _) ⟨w0.heap.size, 0, none⟩ 1 1 [.int .i64 e.1, .int .i64 e.2] rfl rfl (cells_two _ _ _ _) (ones_two _ _) (by omega) ?_)
        intro w1 hown1 hgrow1
        have B1 : Below w.heap.size w w1 := (B0.alloc (by omega) _).grown hgrow1 (by first | omega | (simp; omega)) (by simp)
        have hrow1 := hide (HE.out.row B1)
        have hfA : Hid (∀ j u, (flatE A)[j]? = some u → w1.cell? ((⟨b, 0, none⟩ : Addr).add j) = some u) := by
          intro j u hu
          have hj : j < (flatE A).length := (List.getElem?_eq_some_iff.1 hu).1
          have := hrow1.out j u (by rw [HAD.out, flatE_append, List.getElem?_append_left hj]; exact hu)
          have ha : (⟨b, 0, none⟩ : Addr).add j = ⟨b, j, none⟩ := by unfold Addr.add; split <;> simp_all
          rw [ha]; exact this
        clear hgrow1 B0 h1' h2' hown0 hrow1
        go_wp2_with (at_builtin; refine wpList_append_fits _ rfl (.tmp 30) (.tmp 33) 25 rfl w.heap.size 29 i0 2 Ybgv.underlying25 hi hz1 w.heap.size 1 m.length [.int .i64 e.1, .int .i64 e.2] rfl hown1 ⟨b, 0, none⟩ A.length cap (flatE A) rfl (flatE_length A) hfA.out (fun u hu => flatE_one u A hu) (by omega) ?_)
        intro w2 hown2 hgrow2
        have B2 : Below w.heap.size w w2 := B1.grown hgrow2 B1.size (by simp)
        have hrow2 := hide (HE.out.row B2)
        clear hgrow2 B1 hown1 hfA
        have hlD : (flatE D).length = (m.length - (A.length + 1)) * 2 := by rw [flatE_length]; have := HML.out; omega
        have HLD := hide hlD
        have fin : Hid (∀ (w3 : World) (N : Nat) (v' : Value), w3.ownsRow w.heap.size 29 2 v' N ([.int .i64 e.1, .int .i64 e.2] ++ flatE A ++ flatE D) → N = m.length → EntB w3 w.heap.size v' (mGet m k)) := by
          intro w3 N v' h hN
          rw [HG.out]
          refine EntB.of h (by rw [hN, HML.out]; simp) ?_
          simp [flatE, flatE_append]
        clear hlD
        by_cases hcap : cap = A.length + 1
        · have hD : D = [] := by
            have h1 := HML.out
            exact List.eq_nil_of_length_eq_zero (by omega)
          subst hD
          subst hcap
          have hm2 : m.length = A.length + 1 := by have := HML.out; simpa using this
          have HM2 := hide hm2
          clear hm2
          have HF := hide (fin.out w2 _ _ (by simpa [flatE] using hown2) (by have := HM2.out; omega))
          have HB2 := hide B2
          clear B2 hown2 hrow2 fin
          go_wp2
          go_ret
          exact ⟨_, rfl, Res.fresh hb HF.out HB2.out⟩
        · have hfD : Hid (∀ j u, (flatE D)[j]? = some u → w2.cell? ((⟨b, (A.length + 1) * 2, none⟩ : Addr).add j) = some u) := by
            intro j u hu
            rw [addr_add]
            refine hrow2.out _ u ?_
            rw [HAD.out, flatE_append, List.getElem?_append_right (by rw [flatE_length]; omega), flatE_length, show (A.length + 1) * 2 + j - A.length * 2 = j + 2 by omega]
            simpa [flatE] using hu
          go_wp2_with (at_builtin; refine wpList_append_fits _ rfl (.tmp 35) (.tmp 39) 25 rfl w.heap.size 29 i0 2 Ybgv.underlying25 hi hz1 w.heap.size (1 + A.length) m.length ([.int .i64 e.1, .int .i64 e.2] ++ flatE A) rfl hown2 ⟨b, (A.length + 1) * 2, none⟩ (m.length - (A.length + 1)) (cap - (A.length + 1)) (flatE D) rfl HLD.out hfD.out (fun u hu => flatE_one u D hu) (by omega) ?_)
          intro w3 hown3 hgrow3
          have B3 : Below w.heap.size w w3 := B2.grown hgrow3 B2.size (by simp)
          have HF := hide (fin.out w3 _ _ hown3 (by omega))
          have HB3 := hide B3
          clear hown3 hgrow3 B3 B2 hown2 hfD hrow2 fin
          go_wp2
          go_ret
          exact ⟨_, rfl, Res.fresh hb HF.out HB3.out⟩
      · have hb2 : (e.1 == k) = false := by simp [he]
        have HA' : Hid (∀ x ∈ A ++ [e], x.1 ≠ k) := by
          intro x hx
          rcases List.mem_append.1 hx with h | h
          · exact hA x h
          · simp at h; subst h; exact he
        clear he hA hAD hml
        go_wp2
        go_round
        case rel => exact ⟨A ++ [e], D, by rw [HAD.out]; simp, HA'.out, by simp⟩
        case measure => simp [intOf]; omega

set_option maxHeartbeats 1000000 in
theorem rem27_any {w : World} {base : Nat} {v : Value} {m : List (Int × Int)} (k : Int) (E : EntB w base v m) (hb : base ≤ w.heap.size) (d : distinct m) (hm : m.length ≤ 50000) :
    Calls Ybgv.prog 27 #[v, .int .i64 k] w fun e w' => ∃ v', e = .returned (.tuple #[v', .int .i64 (valOf m k), .bool (hasK m k)]) ∧ Res w base v w' v' (del m k) := by
  obtain ⟨a, cap, b, rfl, ha, _, _, hcl⟩ := E.form
  have HE := hide E
  have HA := hide ha
  have HD := hide d
  obtain ⟨i0, hi, hz0, hz1, hz2⟩ := info_parts Ybgv.info29
  clear E ha d
  go_enter Ybgv.func27, Ybgv.ntmps27
  go_wp2
  go_loop [7] (fun i => ∃ A D, m = A ++ D ∧ (∀ s ∈ A, s.1 ≠ k) ∧ i = .int .i64 A.length) (fun i => m.length - (intOf i).toNat)
  case atStart => exact ⟨[], m, rfl, by simp, rfl⟩
  case round =>
    obtain ⟨A, D, hAD, hA, rfl⟩ := hrel
    cases D with
    | nil =>
      have hlt : ¬ ((A.length : Int) < m.length) := by subst hAD; simp
      have HR : Hid (del m k = m ∧ valOf m k = 0 ∧ hasK m k = false) := by subst hAD; rw [List.append_nil]; exact ⟨del_none hA, valOf_none hA, hasK_none hA⟩
      clear hAD hA
      go_wp2
      go_ret3
      exact ⟨_, by rw [HR.out.2.1, HR.out.2.2]; rfl, by rw [HR.out.1]; exact Res.same HE.out⟩
    | cons e D =>
      have hml : m.length = A.length + D.length + 1 := by rw [hAD]; simp; omega
      have hlt : (A.length : Int) < m.length := by omega
      obtain rfl := HA.out (by omega)
      have HB0 := hide (Below.refl w.heap.size w)
      obtain ⟨h1, h2⟩ := HE.out.cells (j := A.length) (e := e) (by subst hAD; simp)
      have hbl := (HE.out.lt b rfl).2
      have HAD : Hid (m = A ++ e :: D) := hAD
      have HML := hide hml
      by_cases he : e.1 = k
      · have hb2 : (e.1 == k) = true := by simp [he]
        have HG : Hid (del m k = A ++ D) := by
          unfold Hid
          have d := HD.out
          rw [hAD] at d ⊢
          exact del_some hA he d
        have HV : Hid (valOf m k = e.2 ∧ hasK m k = true) := by
          unfold Hid
          rw [hAD]; exact ⟨valOf_some hA he, hasK_some he⟩
        clear he hA hAD hml
        have hAl : A.length + D.length + 1 ≤ 50000 := by have := HML.out; omega
        go_wp2_with (at_make; refine wpList_make_own _ rfl _ _ 25 rfl w.heap.size 29 i0 (.agg #[.int .i64 0, .int .i64 0]) 2 Ybgv.underlying25 hi hz0 hz1 _ _ _ m.length rfl rfl (by omega) (by rw [hz2]; omega) (by unfold maxLen; omega) (Nat.le_refl _) ?_)
        intro w0 hown0 hgrow0
        have B0 := (Below.refl w.heap.size w).grown hgrow0 (Nat.le_refl _) (by simp)
        have h1' := (B0.cell (p := ⟨b, A.length * 2, none⟩) hbl).trans h1
        have h2' := (B0.cell (p := ⟨b, A.length * 2 + 1, none⟩) hbl).trans h2
        have hsz0 : w.heap.size ≤ w0.heap.size := hgrow0.size
        have H2 := hide h2
        clear hgrow0 h1 h2
        have hrow1 := hide (HE.out.row B0)
        have hfA : Hid (∀ j u, (flatE A)[j]? = some u → w0.cell? ((⟨b, 0, none⟩ : Addr).add j) = some u) := by
          intro j u hu
          have hj : j < (flatE A).length := (List.getElem?_eq_some_iff.1 hu).1
          have := hrow1.out j u (by rw [HAD.out, flatE_append, List.getElem?_append_left hj]; exact hu)
          have ha : (⟨b, 0, none⟩ : Addr).add j = ⟨b, j, none⟩ := by unfold Addr.add; split <;> simp_all
          rw [ha]; exact this
        clear h1' h2' hrow1
        go_wp2_with (at_builtin; refine wpList_append_fits _ rfl (.tmp 25) (.tmp 28) 25 rfl w.heap.size 29 i0 2 Ybgv.underlying25 hi hz1 w.heap.size 0 m.length [] rfl hown0 ⟨b, 0, none⟩ A.length cap (flatE A) rfl (flatE_length A) hfA.out (fun u hu => flatE_one u A hu) (by omega) ?_)
        intro w2 hown2 hgrow2
        have B2 : Below w.heap.size w w2 := B0.grown hgrow2 B0.size (by simp)
        have hrow2 := hide (HE.out.row B2)
        have h2'' := (B2.cell (p := ⟨b, A.length * 2 + 1, none⟩) hbl).trans H2.out
        clear hgrow2 B0 hown0 hfA
        have hlD : (flatE D).length = (m.length - (A.length + 1)) * 2 := by rw [flatE_length]; have := HML.out; omega
        have HLD := hide hlD
        have fin : Hid (∀ (w3 : World) (N : Nat) (v' : Value), w3.ownsRow w.heap.size 29 2 v' N (flatE A ++ flatE D) → N + 1 = m.length → EntB w3 w.heap.size v' (del m k)) := by
          intro w3 N v' h hN
          rw [HG.out]
          refine EntB.of h (by have := HML.out; simp; omega) ?_
          simp [flatE_append]
        clear hlD
        by_cases hcap : cap = A.length + 1
        · have hD : D = [] := by
            have h1 := HML.out
            exact List.eq_nil_of_length_eq_zero (by omega)
          subst hD
          subst hcap
          have hm2 : m.length = A.length + 1 := by have := HML.out; simpa using this
          have HM2 := hide hm2
          clear hm2
          have HF := hide (fin.out w2 _ _ (by simpa [flatE] using hown2) (by have := HM2.out; omega))
          have HB2 := hide B2
          clear B2 hown2 hrow2 fin
          go_wp2
          go_quiet (fail)
          go_wp2
          go_ret3
          exact ⟨_, by rw [HV.out.1, HV.out.2]; rfl, Res.fresh hb (HF.out.heap (fun _ _ => rfl)) (HB2.out.trans ⟨rfl, rfl, rfl, Nat.le_refl _, fun _ _ => rfl⟩)⟩
        · have hfD : Hid (∀ j u, (flatE D)[j]? = some u → w2.cell? ((⟨b, (A.length + 1) * 2, none⟩ : Addr).add j) = some u) := by
            intro j u hu
            rw [addr_add]
            refine hrow2.out _ u ?_
            rw [HAD.out, flatE_append, List.getElem?_append_right (by rw [flatE_length]; omega), flatE_length, show (A.length + 1) * 2 + j - A.length * 2 = j + 2 by omega]
            simpa [flatE] using hu
          go_wp2_with (at_builtin; refine wpList_append_fits _ rfl (.tmp 30) (.tmp 34) 25 rfl w.heap.size 29 i0 2 Ybgv.underlying25 hi hz1 w.heap.size A.length m.length (flatE A) rfl hown2 ⟨b, (A.length + 1) * 2, none⟩ (m.length - (A.length + 1)) (cap - (A.length + 1)) (flatE D) rfl HLD.out hfD.out (fun u hu => flatE_one u D hu) (by omega) ?_)
          intro w3 hown3 hgrow3
          have B3 : Below w.heap.size w w3 := B2.grown hgrow3 B2.size (by simp)
          have HF := hide (fin.out w3 _ _ hown3 (by omega))
          have HB3 := hide B3
          have h23 := (B3.cell (p := ⟨b, A.length * 2 + 1, none⟩) hbl).trans H2.out
          clear hown3 hgrow3 B3 B2 hown2 hfD hrow2 fin h2''
          go_wp2
          go_quiet (fail)
          go_wp2
          go_ret3
          exact ⟨_, by rw [HV.out.1, HV.out.2]; rfl, Res.fresh hb (HF.out.heap (fun _ _ => rfl)) (HB3.out.trans ⟨rfl, rfl, rfl, Nat.le_refl _, fun _ _ => rfl⟩)⟩
      · have hb2 : (e.1 == k) = false := by simp [he]
        have HA' : Hid (∀ x ∈ A ++ [e], x.1 ≠ k) := by
          intro x hx
          rcases List.mem_append.1 hx with h | h
          · exact hA x h
          · simp at h; subst h; exact he
        clear he hA hAD hml
        go_wp2
        go_round
        case rel => exact ⟨A ++ [e], D, by rw [HAD.out]; simp, HA'.out, by simp⟩
        case measure => simp [intOf]; omega

end Go.Proofs.Ymwhbg
