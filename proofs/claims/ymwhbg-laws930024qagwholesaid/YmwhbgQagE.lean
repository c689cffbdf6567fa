/-
  The law QAG: the model's comparison; Equal; the copy of a cache; the comparison of copies.
-/
import Derived.Test.YmwhbgQagS
import Derived.Deep.QuietTactic
import Derived.BigQuiet
namespace Go.Proofs.Ymwhbg
open Go.RowKit
set_option linter.unusedVariables false
set_option linter.unusedSimpArgs false

theorem take_ne {m1 m2 : List (Int × Int)} {k : Nat} {e1 e2 : Int × Int} (h1 : m1[k]? = some e1) (h2 : m2[k]? = some e2) (h : e1 ≠ e2) : m1 ≠ m2 := by
  rintro rfl
  rw [h1] at h2
  exact h (Option.some.inj h2)

set_option maxHeartbeats 1000000 in
theorem eq37_any {w : World} {b1 b2 : Nat} {v1 v2 : Value} {m1 m2 : List (Int × Int)} (c1 c2 : Int) (r : Bool) (hr : decide (c1 = c2 ∧ m1 = m2) = r) (E1 : EntB w b1 v1 m1) (E2 : EntB w b2 v2 m2) (hm : m1.length ≤ 50000) (hm2 : m2.length ≤ 50000) :
    Calls Ybgv.prog 37 #[.int .i64 c1, v1, .int .i64 c2, v2] w fun e w' => e = .returned (.bool r) ∧ Below w.heap.size w w' := by
  obtain ⟨a1, cap1, r1, rfl, ha1, _, _, _⟩ := E1.form
  obtain ⟨a2, cap2, r2, rfl, ha2, _, _, _⟩ := E2.form
  have H1 := hide E1
  have H2 := hide E2
  have HA1 := hide ha1
  have HA2 := hide ha2
  have RT : Hid (c1 = c2 → m1 = m2 → r = true) := fun h1 h2 => by rw [← hr]; exact decide_eq_true ⟨h1, h2⟩
  have RC : Hid (c1 ≠ c2 → r = false) := fun h1 => by rw [← hr]; exact decide_eq_false (fun h => h1 h.1)
  have RM : Hid (m1 ≠ m2 → r = false) := fun h1 => by rw [← hr]; exact decide_eq_false (fun h => h1 h.2)
  clear E1 E2 ha1 ha2 hr
  by_cases hc : c1 = c2
  · have hcb : (c1 != c2) = false := by simp [hc]
    by_cases hl : m1.length = m2.length
    · have hlb : ((m1.length : Int) != (m2.length : Int)) = false := by simp [hl]
      have HL := hide hl
      have HC := hide hc
      clear hl hc
      go_enter Ybgv.func37, Ybgv.ntmps37
      go_wp2
      go_loopw [9] (fun i wr => ∃ k : Nat, k ≤ m1.length ∧ i = .int .i64 k ∧ m1.take k = m2.take k ∧ Below w.heap.size w wr) (fun i _ => m1.length - (intOf i).toNat)
      case atStart => exact ⟨0, Nat.zero_le _, rfl, by simp, Below.refl _ _⟩
      case round =>
        obtain ⟨k, hk, rfl, ht, b⟩ := hrel
        have HT := hide ht
        clear ht
        by_cases hlt : k < m1.length
        · have hlt' : (k : Int) < (m1.length : Int) := by omega
          have hlt2 : k < m2.length := by have := HL.out; omega
          have hlt2' : (k : Int) < (m2.length : Int) := by omega
          obtain ⟨⟨x1, y1⟩, he1⟩ : ∃ e, m1[k]? = some e := ⟨m1[k], by simp [hlt]⟩
          obtain ⟨⟨x2, y2⟩, he2⟩ : ∃ e, m2[k]? = some e := ⟨m2[k], by simp [hlt2]⟩
          obtain rfl := HA1.out (by omega)
          obtain rfl := HA2.out (by omega)
          obtain ⟨p1, p2⟩ := (H1.out.below b).cells he1
          obtain ⟨q1, q2⟩ := (H2.out.below b).cells he2
          simp only at p1 p2 q1 q2
          have HE1 := hide he1
          have HE2 := hide he2
          have HB := hide b
          clear b he1 he2
          by_cases hx : x1 = x2
          · subst hx
            by_cases hy : y1 = y2
            · subst hy
              go_wp2
              go_quiet (fail)
              go_wp2
              go_roundw
              case rel => exact ⟨k + 1, by omega, by go_num, by rw [take_step _ _ _ HE1.out, take_step _ _ _ HE2.out, HT.out], HB.out.trans ⟨rfl, rfl, rfl, Nat.le_refl _, fun _ _ => rfl⟩⟩
              case measure => simp [intOf]; omega
            · have hne := hide (RM.out (take_ne HE1.out HE2.out (by simpa using hy)))
              go_wp2
              go_quiet (fail)
              go_wp2
              go_ret
              exact ⟨by rw [hne.out]; rfl, HB.out.trans ⟨rfl, rfl, rfl, Nat.le_refl _, fun _ _ => rfl⟩⟩
          · have hne := hide (RM.out (take_ne HE1.out HE2.out (by intro h; exact hx (congrArg Prod.fst h))))
            go_wp2
            go_quiet (fail)
            go_wp2
            go_ret
            exact ⟨by rw [hne.out]; rfl, HB.out.trans ⟨rfl, rfl, rfl, Nat.le_refl _, fun _ _ => rfl⟩⟩
        · have hlt' : ¬ ((k : Int) < (m1.length : Int)) := by omega
          have HB := hide b
          have HM : Hid (r = true) := RT.out HC.out (by
            have := HT.out
            rwa [List.take_of_length_le (by omega), List.take_of_length_le (by have := HL.out; omega)] at this)
          clear b
          go_wp2
          go_ret
          exact ⟨by rw [HM.out]; rfl, HB.out⟩
    · have hlb : ((m1.length : Int) != (m2.length : Int)) = true := by rw [bne_iff_ne]; omega
      have HM : Hid (r = false) := RM.out (fun h => hl (by rw [h]))
      clear hl
      go_enter Ybgv.func37, Ybgv.ntmps37
      go_wp2
      go_ret
      exact ⟨by rw [HM.out]; rfl, Below.refl _ _⟩
  · have hcb : (c1 != c2) = true := by simp [hc]
    have HC := hide (RC.out hc)
    clear hc
    go_enter Ybgv.func37, Ybgv.ntmps37
    go_wp2
    go_ret
    exact ⟨by rw [HC.out]; rfl, Below.refl _ _⟩

theorem ents_snoc (K V : Nat → Int) (A : List Nat) (s : Nat) : ents K V (A ++ [s]) = ents K V A ++ [(K s, V s)] := by simp [ents]

set_option maxHeartbeats 1000000 in
set_option maxRecDepth 100000 in
theorem equal40_any {w : World} {B1 cb1 : Nat} {nv1 : Value} {n1 : Nat} {f1 cp1 : Int} {m1 : List (Int × Int)} {B2 cb2 : Nat} {nv2 : Value} {n2 : Nat} {f2 cp2 : Int} {m2 : List (Int × Int)} (r : Bool) (hr : decide (cp1 = cp2 ∧ m1 = m2) = r)
    (I1 : Inv w B1 cb1 nv1 n1 f1 cp1 m1) (I2 : Inv w B2 cb2 nv2 n2 f2 cp2 m2) (hn1 : n1 ≤ 100000) (hn2 : n2 ≤ 100000) :
    Calls Ybgv.prog 40 #[.pointer (some ⟨cb1, 0, none⟩), .pointer (some ⟨cb2, 0, none⟩)] w fun e w' => e = .returned (.bool r) ∧ Below w.heap.size w w' := by
  have RT : Hid (cp1 = cp2 → m1 = m2 → r = true) := fun h1 h2 => by rw [← hr]; exact decide_eq_true ⟨h1, h2⟩
  have RC : Hid (cp1 ≠ cp2 → r = false) := fun h1 => by rw [← hr]; exact decide_eq_false (fun h => h1 h.1)
  have RM : Hid (m1 ≠ m2 → r = false) := fun h1 => by rw [← hr]; exact decide_eq_false (fun h => h1 h.2)
  clear hr
  obtain ⟨K1, V1, P1, X1, L1, F1, c1, r1, rfl, d1, l1⟩ := I1
  obtain ⟨K2, V2, P2, X2, L2, F2, c2, r2, rfl, d2, l2⟩ := I2
  obtain ⟨an1, ncap1, nb1, rfl, hna1, _, _⟩ := c1.row.form
  obtain ⟨an2, ncap2, nb2, rfl, hna2, _, _⟩ := c2.row.form
  have hll1 := r1.lenL
  have hll2 := r2.lenL
  have s5 := c1.c5
  have s4 := c1.c4
  have t5 := c2.c5
  have t4 := c2.c4
  have s1 := c1.c1
  have t1 := c2.c1
  have HC1 := hide c1
  have HC2 := hide c2
  have HN1 := hide hna1
  have HN2 := hide hna2
  have HR1 := hide r1
  have HR2 := hide r2
  clear c1 c2 hna1 hna2 r1 r2 d1 d2 l1 l2
  by_cases hc : cp1 = cp2
  · have hcb : (cp1 != cp2) = false := by simp [hc]
    by_cases hl : L1.length = L2.length
    · have hlb : ((L1.length : Int) != (L2.length : Int)) = false := by simp [hl]
      have HL := hide hl
      have HC := hide hc
      clear hl hc
      go_enter Ybgv.func40, Ybgv.ntmps40
      go_wp2
      go_quiet (fail)
      go_wp2
      clear s5 s4 t5 t4 s1 t1
      go_loopw [5, 6, 7] (fun i j k wr => ∃ A1 D1 A2 D2 : List Nat, L1 = A1 ++ D1 ∧ L2 = A2 ++ D2 ∧ A1.length = A2.length ∧ ents K1 V1 A1 = ents K2 V2 A2 ∧ i = .int .i64 (hd D1) ∧ j = .int .i64 (hd D2) ∧ k = .int .i64 A1.length ∧ Below w.heap.size w wr) (fun _ _ k _ => L1.length - (intOf k).toNat)
      case atStart => exact ⟨[], L1, [], L2, rfl, rfl, rfl, rfl, rfl, rfl, rfl, ⟨rfl, rfl, rfl, Nat.le_refl _, fun _ _ => rfl⟩⟩
      case round =>
        obtain ⟨A1, D1, A2, D2, hAD1, hAD2, hAl, hent, rfl, rfl, rfl, b⟩ := hrel
        have s4 := (HC1.out.below b).c4
        have HAD1 := hide hAD1
        have HAD2 := hide hAD2
        have HAL := hide hAl
        have HENT := hide hent
        have HB := hide b
        have hlen2 : A1.length + D1.length = L1.length := by rw [hAD1]; simp
        have hlen3 : A2.length + D2.length = L2.length := by rw [hAD2]; simp
        have hdl : D1.length = D2.length := by have := HL.out; omega
        cases D1 with
        | nil =>
          have hlt : ¬ ((A1.length : Int) < (L1.length : Int)) := by simp at hlen2; omega
          have hD2 : D2 = [] := List.eq_nil_of_length_eq_zero (by simpa using hdl.symm)
          subst hD2
          have HM : Hid (r = true) := RT.out HC.out (by rw [hAD1, hAD2]; simpa using hent)
          clear hAD1 hAD2 hAl hent b hlen2 hlen3 hdl
          go_wp2
          go_ret
          exact ⟨by rw [HM.out]; rfl, HB.out⟩
        | cons x1 D1 =>
          obtain ⟨x2, D2, rfl⟩ : ∃ x2 D, D2 = x2 :: D := by
            cases D2 with
            | nil => simp at hdl
            | cons x2 D => exact ⟨x2, D, rfl⟩
          have hlt : (A1.length : Int) < (L1.length : Int) := by simp at hlen2; omega
          have hlt2 : A1.length < L1.length := by omega
          have hx1 : x1 < n1 := HR1.out.ltL x1 (by simp [hAD1])
          have hx1n : (x1 : Int) < (n1 : Int) := by omega
          have hx2 : x2 < n2 := HR2.out.ltL x2 (by simp [hAD2])
          have hx2n : (x2 : Int) < (n2 : Int) := by omega
          have s0 := (HC1.out.below b).c0
          have t0 := (HC2.out.below b).c0
          obtain rfl := HN1.out (by omega)
          obtain rfl := HN2.out (by omega)
          obtain ⟨gk1, gv1, _, gx1⟩ := (HC1.out.below b).row.cells hx1
          obtain ⟨gk2, gv2, _, gx2⟩ := (HC2.out.below b).row.cells hx2
          rw [(HR1.out.dl A1 x1 D1 hAD1).2] at gx1
          rw [(HR2.out.dl A2 x2 D2 hAD2).2] at gx2
          have h1 : (ents K1 V1 L1)[A1.length]? = some (K1 x1, V1 x1) := by rw [hAD1]; simp [ents]
          have h2 : (ents K2 V2 L2)[A1.length]? = some (K2 x2, V2 x2) := by rw [hAl, hAD2]; simp [ents]
          have HNE := hide (fun h => RM.out (take_ne h1 h2 h))
          clear hAD1 hAD2 hAl hent b hlen2 hlen3 hdl h1 h2
          have HE := hide (ents_snoc K1 V1 A1 x1)
          have HE2 := hide (ents_snoc K2 V2 A2 x2)
          rw [hd_cons, hd_cons]
          generalize K1 x1 = k1 at *
          generalize K2 x2 = k2 at *
          generalize V1 x1 = y1 at *
          generalize V2 x2 = y2 at *
          by_cases hx : k1 = k2
          · subst hx
            by_cases hy : y1 = y2
            · subst hy
              go_wp2
              go_quiet (fail)
              go_wp2
              go_roundw
              case rel => exact ⟨A1 ++ [x1], D1, A2 ++ [x2], D2, by rw [HAD1.out]; simp, by rw [HAD2.out]; simp, by have := HAL.out; simp; omega, by rw [HE.out, HE2.out, HENT.out], rfl, rfl, by simp, HB.out.trans ⟨rfl, rfl, rfl, Nat.le_refl _, fun _ _ => rfl⟩⟩
              case measure => simp [intOf]; omega
            · have hne := hide (HNE.out (by simpa using hy))
              go_wp2
              go_quiet (fail)
              go_wp2
              go_ret
              exact ⟨by rw [hne.out]; rfl, HB.out.trans ⟨rfl, rfl, rfl, Nat.le_refl _, fun _ _ => rfl⟩⟩
          · have hne := hide (HNE.out (fun h => hx (congrArg Prod.fst h)))
            go_wp2
            go_quiet (fail)
            go_wp2
            go_ret
            exact ⟨by rw [hne.out]; rfl, HB.out.trans ⟨rfl, rfl, rfl, Nat.le_refl _, fun _ _ => rfl⟩⟩
    · have hlb : ((L1.length : Int) != (L2.length : Int)) = true := by rw [bne_iff_ne]; omega
      have HM : Hid (r = false) := RM.out (fun h => hl (by have := congrArg List.length h; simpa [ents_length] using this))
      clear hl
      go_enter Ybgv.func40, Ybgv.ntmps40
      go_wp2
      go_quiet (fail)
      go_wp2
      go_ret
      exact ⟨by rw [HM.out]; rfl, ⟨rfl, rfl, rfl, Nat.le_refl _, fun _ _ => rfl⟩⟩
  · have hcb : (cp1 != cp2) = true := by simp [hc]
    have HM := hide (RC.out hc)
    clear hc
    go_enter Ybgv.func40, Ybgv.ntmps40
    go_wp2
    go_quiet (fail)
    go_wp2
    go_ret
    exact ⟨by rw [HM.out]; rfl, ⟨rfl, rfl, rfl, Nat.le_refl _, fun _ _ => rfl⟩⟩

end Go.Proofs.Ymwhbg
