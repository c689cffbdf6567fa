/-
  The law QAC: its model's Put, its check.
-/
import Derived.Test.YmwhbgRes
import Derived.Deep.QuietTactic
import Derived.BigQuiet
namespace Go.Proofs.Ymwhbg
open Go.RowKit
set_option linter.unusedVariables false
set_option linter.unusedSimpArgs false

theorem ents_mid {K V : Nat → Int} {A B : List Nat} {s : Nat} : (ents K V (A ++ s :: B))[A.length]? = some (K s, V s) := by
  simp [ents]

set_option maxHeartbeats 1000000 in
theorem put29_any {w : World} {base : Nat} {v : Value} {m : List (Int × Int)} (cp k x : Int) (E : EntB w base v m) (hb : base ≤ w.heap.size) (d : distinct m) (hl : (m.length : Int) ≤ cp) (hm : m.length ≤ 50000) :
    Calls Ybgv.prog 29 #[v, .int .i64 cp, .int .i64 k, .int .i64 x] w fun e w' => ∃ v', e = .returned v' ∧ Res w base v w' v' (mPut cp m k x) := by
  obtain ⟨a, cap, b, rfl, _, _, _, _⟩ := E.form
  have HE := hide E
  by_cases hc0 : cp = 0
  · subst hc0
    rw [mPut_zero]
    clear d hl E
    go_enter Ybgv.func29, Ybgv.ntmps29
    go_wp2
    go_ret
    exact ⟨_, rfl, Res.same HE.out⟩
  · have hcb : (cp == 0) = false := by simp [hc0]
    rcases hasK_cases m k d with ⟨k1, k2, k3, k4⟩ | ⟨j, e, k1, k2, k3, k4, k5⟩
    · have K2 := hide k2
      by_cases hfull : (m.length : Int) = cp
      · have hfb : ((m.length : Int) == cp) = true := by simp [hfull]
        rw [mPut_full hc0 k1 hfull]
        have hm0 : m ≠ [] := by rintro rfl; simp at hfull; omega
        have E3 := hide (eI_last m hm0)
        have hl2 : m.dropLast.length ≤ 50000 := by simp; omega
        clear hfull hc0 k1 k2 k3 k4 hm0 d E
        go_enter Ybgv.func29, Ybgv.ntmps29
        go_wp2_with fail
        refine (idx30_any k HE.out (by omega)).mono ?_
        rintro e w3 ⟨rfl, rfl⟩
        rw [K2.out]
        go_wp2_with fail
        refine (del31_any _ HE.out (by omega)).mono ?_
        rintro e w4 ⟨v4, rfl, E4, b4⟩
        rw [E3.out] at E4
        have HE4 := hide E4
        have HB4 := hide b4
        have hs4 := b4.size
        clear E4 b4
        go_wp2_with fail
        refine (front32_any (-1) k x HE4.out (by omega)).mono ?_
        rintro e w5 ⟨v5, rfl, E5, b5⟩
        rw [eI_neg] at E5
        have HR := hide (Res.fresh (v := .slice a m.length cap) hb (E5.down hs4) (HB4.out.trans (b5.mono hs4)))
        clear E5 b5
        go_wp2
        go_ret
        exact ⟨_, rfl, HR.out⟩
      · have hfb : ((m.length : Int) == cp) = false := by simp [hfull]
        rw [mPut_room hc0 k1 hfull]
        clear hfull hc0 k1 k2 k3 k4 d E
        go_enter Ybgv.func29, Ybgv.ntmps29
        go_wp2_with fail
        refine (idx30_any k HE.out (by omega)).mono ?_
        rintro e w3 ⟨rfl, rfl⟩
        rw [K2.out]
        go_wp2_with fail
        refine (front32_any (-1) k x HE.out (by omega)).mono ?_
        rintro e w5 ⟨v5, rfl, E5, b5⟩
        rw [eI_neg] at E5
        have HR := hide (Res.fresh (v := .slice a m.length cap) hb E5 b5)
        clear E5 b5
        go_wp2
        go_ret
        exact ⟨_, rfl, HR.out⟩
    · rw [mPut_hit hc0 k1]
      have K2 := hide k2
      have K5 := hide k5
      clear hc0 k1 k2 k3 k4 k5 d E
      go_enter Ybgv.func29, Ybgv.ntmps29
      go_wp2_with fail
      refine (idx30_any k HE.out (by omega)).mono ?_
      rintro e w3 ⟨rfl, rfl⟩
      rw [K2.out]
      go_wp2_with fail
      refine (front32_any j k x HE.out (by omega)).mono ?_
      rintro e w5 ⟨v5, rfl, E5, b5⟩
      rw [K5.out] at E5
      have HR := hide (Res.fresh (v := .slice a m.length cap) hb E5 b5)
      clear E5 b5
      go_wp2
      go_ret
      exact ⟨_, rfl, HR.out⟩

set_option maxHeartbeats 1000000 in
set_option maxRecDepth 100000 in
theorem check33_any {w : World} {B B' cb : Nat} {nv v : Value} {n : Nat} {f cp : Int} {m : List (Int × Int)} (I : Inv w B cb nv n f cp m) (E : EntB w B' v m) (hn : n ≤ 100000) :
    Calls Ybgv.prog 33 #[.pointer (some ⟨cb, 0, none⟩), v, .int .i64 cp, .int .i64 n, .int .i64 f] w fun e w' => e = .returned (.bool true) ∧ Below w.heap.size w w' := by
  obtain ⟨K, V, P, X, L, F, c, r, rfl, d, l⟩ := I
  obtain ⟨a, cap, b, rfl, ha, _, _, _⟩ := E.form
  obtain ⟨an, ncap, nb, rfl, hna, _, _⟩ := c.row.form
  have hll := r.lenL
  have hlen := r.len
  rw [ents_length] at *
  have c0 := c.c0
  have c1 := c.c1
  have c2 := c.c2
  have c3 := c.c3
  have c4 := c.c4
  have c5 := c.c5
  have HC := hide c
  have HE := hide E
  have HA := hide ha
  have HNA := hide hna
  have HR := hide r
  clear c E ha hna r d l
  go_enter Ybgv.func33, Ybgv.ntmps33
  go_wp2
  clear c0 c1 c2 c3 c4 c5
  go_loopw [11, 12, 13] (fun p i k wr => ∃ A D : List Nat, L = A ++ D ∧ i = .int .i64 (hd D) ∧ p = .int .i64 (lst A) ∧ k = .int .i64 A.length ∧ Below w.heap.size w wr) (fun _ _ k _ => L.length - (intOf k).toNat)
  case atStart => exact ⟨[], L, rfl, rfl, rfl, rfl, Below.refl _ _⟩
  case round =>
    obtain ⟨A, D, hAD, rfl, rfl, rfl, b1⟩ := hrel
    have c' := HC.out.below b1
    have c0 := c'.c0
    cases D with
    | nil =>
      have hlt : ¬ ((A.length : Int) < L.length) := by subst hAD; simp
      have hLA : L = A := by simpa using hAD
      have ht : (lst L == lst A) = true := by rw [hLA]; simp
      have c2 := c'.c2
      have HB1 := hide b1
      clear hAD hLA b1 c'
      rw [hd_nil]
      go_wp2
      go_ret
      exact ⟨rfl, HB1.out⟩
    | cons s D =>
      have hlt : (A.length : Int) < L.length := by subst hAD; simp; omega
      have hlt2 : A.length < L.length := by omega
      have hs : s < n := HR.out.ltL s (by simp [hAD])
      have hsn : (s : Int) < (n : Int) := by omega
      have hs0 : ¬ ((s : Int) < 0) := by omega
      obtain rfl := HNA.out (by omega)
      obtain rfl := HA.out (by omega)
      have hE := HE.out
      unfold EntB at hE
      rw [ents_length] at hE
      have hE2 : EntB w B' (.slice (some ⟨b, 0, none⟩) (ents K V L).length cap) (ents K V L) := by unfold EntB; rw [ents_length]; exact hE
      obtain ⟨e1, e2⟩ := (hE2.below b1).cells (j := A.length) (e := (K s, V s)) (by rw [hAD]; exact ents_mid)
      obtain ⟨gk, gv, gp, gx⟩ := c'.row.cells hs
      obtain ⟨hp, hx⟩ := HR.out.dl A s D hAD
      rw [hp] at gp
      rw [hx] at gx
      have HAD := hide hAD
      have HB1 := hide b1
      clear hAD b1 c' hE hE2 hp hx
      rw [hd_cons]
      go_wp2
      go_quiet (fail)
      go_wp2
      go_roundw
      case rel => exact ⟨A ++ [s], D, by rw [HAD.out]; simp, rfl, by rw [lst_snoc], by simp, HB1.out.trans ⟨rfl, rfl, rfl, Nat.le_refl _, fun _ _ => rfl⟩⟩
      case measure => simp [intOf]; omega

end Go.Proofs.Ymwhbg
