/-
  The law QAE: the walk of its check.
-/
import Derived.Test.YmwhbgTwo
import Derived.Deep.DeepCutAuto
import Derived.Deep.QuietTactic
import Derived.BigQuiet
namespace Go.Proofs.Ymwhbg
open Go.RowKit
set_option linter.unusedVariables false
set_option linter.unusedSimpArgs false

theorem ents_at {K V : Nat → Int} {A B : List Nat} {s : Nat} : (ents K V (A ++ s :: B))[A.length]? = some (K s, V s) := by
  simp [ents]

set_option maxHeartbeats 1000000 in
set_option maxRecDepth 100000 in
theorem check24_any {w : World} {B B' cb : Nat} {nv v : Value} {n : Nat} {f cp : Int} {m : List (Int × Int)} (I : Inv w B cb nv n f cp m) (E : EntB w B' v m) (hn : n ≤ 100000) :
    Calls Ybgv.prog 24 #[.pointer (some ⟨cb, 0, none⟩), .int .i64 cp, v] w fun e w' => e = .returned (.bool true) ∧ Below w.heap.size w w' := by
  obtain ⟨K, V, P, X, L, F, c, r, rfl, d, l⟩ := I
  obtain ⟨a, cap, b, rfl, ha, _, _, _⟩ := E.form
  obtain ⟨an, ncap, nb, rfl, hna, _, _⟩ := c.row.form
  have hll := r.lenL
  have hlen := r.len
  rw [ents_length] at *
  have c0 := c.c0
  have c1 := c.c1
  have c2 := c.c2
  have c3 := c.c3
  have c4 := c.c4
  have c5 := c.c5
  have HC := hide c
  have HE := hide E
  have HA := hide ha
  have HNA := hide hna
  have HR := hide r
  clear c E ha hna r d l
  go_enter Ybgv.func24, Ybgv.ntmps24
  go_upto_if 35 with fail
  go_cut [] from 28 to 47 (fun wr => wr = w)
  case first =>
    by_cases hL : L = []
    · have h1 : (hd L != -1) = false := by rw [hL]; rfl
      have h2 : (lst L != -1) = false := by rw [hL]; rfl
      have h3 : ((L.length : Int) == 0) = true := by rw [hL]; rfl
      clear hL
      go_wp2
      go_meet
      case rel => rfl
    · have h3 : ((L.length : Int) == 0) = false := by
        have := List.length_pos_iff.2 hL
        exact beq_eq_false_iff_ne.2 (by omega)
      clear hL
      go_wp2
      go_meet
      case rel => rfl
  case rest =>
    subst hcut
    go_wp2
    clear c0 c1 c2 c3 c4 c5
    go_loopw [8, 9, 10] (fun i p k wr => ∃ A D : List Nat, L = A ++ D ∧ i = .int .i64 (hd D) ∧ p = .int .i64 (lst A) ∧ k = .int .i64 A.length ∧ Below wc.heap.size wc wr) (fun _ _ k _ => L.length - (intOf k).toNat)
    case atStart => exact ⟨[], L, rfl, rfl, rfl, rfl, Below.refl _ _⟩
    case round =>
      obtain ⟨A, D, hAD, rfl, rfl, rfl, b1⟩ := hrel
      have c' := HC.out.below b1
      have c0 := c'.c0
      cases D with
      | nil =>
        have hlt : ¬ ((A.length : Int) < L.length) := by subst hAD; simp
        have hLA : L = A := by simpa using hAD
        have ht : (lst L != lst A) = false := by rw [hLA]; simp
        have c2 := c'.c2
        have c3 := c'.c3
        have hf := HR.out.sl.1
        have HB1 := hide b1
        have hlen2 : L.length + F.length = n := hlen
        clear hAD hLA b1 c'
        rw [hd_nil]
        go_wp2
        go_loopw [11, 12] (fun f2 k wr => ∃ A D : List Nat, F = A ++ D ∧ f2 = .int .i64 (hd D) ∧ k = .int .i64 A.length ∧ Below wc.heap.size wc wr) (fun _ k _ => F.length - (intOf k).toNat)
        case atStart => exact ⟨[], F, rfl, rfl, rfl, HB1.out⟩
        case round =>
          clear c0 c2 c3 hf ht HB1
          obtain ⟨A2, D2, hAD2, rfl, rfl, b2⟩ := hrel
          have c' := HC.out.below b2
          have c0 := c'.c0
          cases D2 with
          | nil =>
            have hFA : F.length = A2.length := by rw [hAD2]; simp
            have hend : ((A2.length : Int) + L.length == (n : Int)) = true := by rw [beq_iff_eq]; omega
            have hb2 : A2.length ≤ 100000 := by omega
            have HB2 := hide b2
            clear hAD2 b2 c' c0 hFA
            rw [hd_nil]
            go_wp2
            go_ret
            exact ⟨rfl, HB2.out⟩
          | cons s D2 =>
            have hs : s < n := HR.out.lt s (by simp [hAD2])
            have hsn : (s : Int) < (n : Int) := by omega
            have hs0 : ¬ ((s : Int) < 0) := by omega
            have hsb : ((s : Int) != -1) = true := by rw [bne_iff_ne]; omega
            have hal : A2.length < F.length := by rw [hAD2]; simp
            have hal2 : ¬ ((n : Int) < (A2.length : Int)) := by omega
            obtain rfl := HNA.out (by omega)
            obtain ⟨_, _, _, gx⟩ := c'.row.cells hs
            rw [HR.out.sl.2 A2 s D2 hAD2] at gx
            have HAD := hide hAD2
            have HB2 := hide b2
            clear hAD2 b2 c'
            rw [hd_cons]
            go_wp2
            go_roundw
            case rel => exact ⟨A2 ++ [s], D2, by rw [HAD.out]; simp, rfl, by simp, HB2.out⟩
            case measure => simp [intOf]; omega
      | cons s D =>
        have hlt : (A.length : Int) < L.length := by subst hAD; simp; omega
        have hlt2 : A.length < L.length := by omega
        have hs : s < n := HR.out.ltL s (by simp [hAD])
        have hsn : (s : Int) < (n : Int) := by omega
        have hs0 : ¬ ((s : Int) < 0) := by omega
        obtain rfl := HNA.out (by omega)
        obtain rfl := HA.out (by omega)
        have hE := HE.out
        unfold EntB at hE
        rw [ents_length] at hE
        have hE2 : EntB wc B' (.slice (some ⟨b, 0, none⟩) (ents K V L).length cap) (ents K V L) := by unfold EntB; rw [ents_length]; exact hE
        obtain ⟨e1, e2⟩ := (hE2.below b1).cells (j := A.length) (e := (K s, V s)) (by rw [hAD]; exact ents_at)
        obtain ⟨gk, gv, gp, gx⟩ := c'.row.cells hs
        obtain ⟨hp, hx⟩ := HR.out.dl A s D hAD
        rw [hp] at gp
        rw [hx] at gx
        have HAD := hide hAD
        have HB1 := hide b1
        clear hAD b1 c' hE hE2 hp hx
        rw [hd_cons]
        go_wp2
        go_quiet (fail)
        go_wp2
        go_roundw
        case rel => exact ⟨A ++ [s], D, by rw [HAD.out]; simp, rfl, by rw [lst_snoc], by simp, HB1.out.trans ⟨rfl, rfl, rfl, Nat.le_refl _, fun _ _ => rfl⟩⟩
        case measure => simp [intOf]; omega

end Go.Proofs.Ymwhbg
