/-
  The law QAG: its walk (made by gen_qag.py).
-/
import Derived.Test.YmwhbgQagB
import Derived.Test.YmwhbgQagR
namespace Go.Proofs.Ymwhbg
open Go.RowKit
set_option linter.unusedVariables false
set_option linter.unusedSimpArgs false

theorem Ops3.below {k0 k1 k2 : IntKind} {w w' : World} {a : Option Addr} {len : Nat} {f0 f1 f2 : Nat → Int} (h : Ops3 k0 k1 k2 w a len f0 f1 f2) (g : Below w.heap.size w w') : Ops3 k0 k1 k2 w' a len f0 f1 f2 := by
  intro k hk
  obtain ⟨b, off, e, hb, g0, g1, g2⟩ := h k hk
  exact ⟨b, off, e, Nat.lt_of_lt_of_le hb g.size, (g.cell (p := ⟨b, off + k * 3, none⟩) hb).trans g0, (g.cell (p := ⟨b, off + k * 3 + 1, none⟩) hb).trans g1, (g.cell (p := ⟨b, off + k * 3 + 2, none⟩) hb).trans g2⟩
theorem hop {a b c : World} (h1 : Below a.heap.size a b) (h2 : Below b.heap.size b c) : Below a.heap.size a c := h1.trans (h2.mono h1.size)
theorem held_below {N : Nat} {W w' : World} {p : Prop} (h : Below N W w' ∧ p) : Below N W w' := h.1
theorem Nodes.belowG {w w' : World} {base : Nat} {v : Value} {n : Nat} {K V P X : Nat → Int} (h : Nodes w base v n K V P X) (g : Below w.heap.size w w') : Nodes w' base v n K V P X := h.heap (fun k hk => g.block k (h.lt k hk).2)
theorem norm38_to (c cp : Int) (h : max c 0 = cp) (w : World) : Calls Ybgv.prog 38 #[.int .i64 c] w fun e w' => e = .returned (.int .i64 cp) ∧ w' = w := by
  rw [← h]; exact norm38_any c w
theorem Below.drews (w : World) : Below w.heap.size w w.drew := ⟨rfl, rfl, rfl, Nat.le_refl _, fun _ _ => rfl⟩

set_option maxHeartbeats 8000000 in
set_option maxRecDepth 100000 in
theorem qag_any (ca cb mode : Int) (a2 a3 : Option Addr) (len2 cap2 len3 cap3 : Nat) (f20 f21 f22 f30 f31 f32 : Nat → Int) (w : World) (ho2 : Ops3 .u8 .u8 .u8 w a2 len2 f20 f21 f22) (ho3 : Ops3 .u8 .u8 .u8 w a3 len3 f30 f31 f32) (hmode : 0 ≤ mode ∧ mode ≤ 255)
    (h2 : ∀ k, k < len2 → (0 ≤ f20 k ∧ f20 k ≤ 255) ∧ (0 ≤ f21 k ∧ f21 k ≤ 255) ∧ (0 ≤ f22 k ∧ f22 k ≤ 255)) (h3 : ∀ k, k < len3 → (0 ≤ f30 k ∧ f30 k ≤ 255) ∧ (0 ≤ f31 k ∧ f31 k ≤ 255) ∧ (0 ≤ f32 k ∧ f32 k ≤ 255)) :
    Calls Ybgv.prog 8 #[.int .i64 ca, .int .i64 cb, .slice a2 len2 cap2, .slice a3 len3 cap3, .int .u8 mode] w fun e w' => e = .returned (.bool true) ∧ Below w.heap.size w w' := by
  obtain ⟨hmo1, hmo2⟩ := hmode
  have HO2 := hide ho2
  have HO3 := hide ho3
  have H2 := hide h2
  have H3 := hide h3
  clear ho2 ho3 h2 h3
  by_cases hl2 : len2 ≤ 300
  · have hl2' : ¬ ((300 : Int) < (len2 : Int)) := by omega
    by_cases hl3 : len3 ≤ 300
    · have hl3' : ¬ ((300 : Int) < (len3 : Int)) := by omega
      go_enter Ybgv.func8, Ybgv.ntmps8
      go_wp2_with fail
      refine (run34_any ca a2 len2 cap2 f20 f21 f22 w HO2.out H2.out hl2).mono ?_
      rintro e w1 ⟨v1, rfl, M, T1⟩
      have HT1 := hide T1
      clear T1
      by_cases q0 : mode % 3 = 0
      · have q0b : (mode % 3 == 0) = true := by simp [q0]
        clear q0
        go_wp2_with fail
        refine (run34_any cb a3 len3 cap3 f30 f31 f32 w1 (HO3.out.below HT1.out.below) H3.out hl3).mono ?_
        rintro e w2 ⟨v2, rfl, M2, T2⟩
        obtain ⟨nv2, n2, f2, I2, hn2, E2, _, b2⟩ := T2
        have HI2 := hide I2
        have HE2 := hide E2
        have HB2 := hide b2
        clear I2 E2 b2
        have hn2' : n2 ≤ 300 := by omega
        obtain ⟨nv1, n1, f1, I1, hn1, E1, _, b1⟩ := HT1.out
        have HI1 := hide (I1.below HB2.out)
        have HE1 := hide (E1.below HB2.out)
        have HBW := hide (b1.trans (HB2.out.mono b1.size))
        have hn1' : n1 ≤ 300 := by omega
        clear I1 E1 b1 HT1 HB2
        obtain ⟨cpA, hcpA⟩ : ∃ x, max ca 0 = x := ⟨_, rfl⟩
        obtain ⟨cpD, hcpD⟩ : ∃ x, max cb 0 = x := ⟨_, rfl⟩
        rw [hcpA] at HI1
        rw [hcpD] at HI2
        have HCA := hide hcpA
        have HCD := hide hcpD
        clear hcpA hcpD
        obtain ⟨r, hr⟩ : ∃ r, decide (cpA = cpD ∧ M = M2) = r := ⟨_, rfl⟩
        have HR := hide hr
        clear hr
        go_wp2_with fail
        refine (norm38_to ca cpA HCA.out _).mono ?_
        rintro e w' ⟨rfl, h'⟩
        rw [h']
        clear h' w'
        go_wp2_with fail
        refine (norm38_to cb cpD HCD.out _).mono ?_
        rintro e w' ⟨rfl, h'⟩
        rw [h']
        clear h' w'
        go_wp2_with fail
        refine (eq37_any cpA cpD r HR.out HE1.out HE2.out (by have := HI1.out.len_n; omega) (by have := HI2.out.len_n; omega)).mono ?_
        rintro e wd ⟨rfl, bd⟩
        have HJ1 := hide (HI1.out.below bd)
        have HJ2 := hide (HI2.out.below bd)
        have HBD := hide (HBW.out.trans (bd.mono HBW.out.size))
        clear HI1 HI2 HE1 HE2 HBW bd
        obtain ⟨K1, V1, P1, X1, L1, F1, c1, r1, e1, d1, l1⟩ := HJ1.out
        obtain ⟨K2, V2, P2, X2, L2, F2, c2, r2, e2, d2, l2⟩ := HJ2.out
        have HC1 := hide c1
        have HC2 := hide c2
        clear c1 c2 r1 r2 e1 e2 d1 d2 l1 l2
        go_wp2_with fail
        refine (take39_any HC1.out (by omega)).mono ?_
        rintro e we ⟨x1, rfl, N1, be⟩
        obtain ⟨xa1, xc1, xr1, rfl, g1, g2, g3⟩ := N1.form
        have HN1 := hide N1
        have HBE := hide (be.alloc be.size (.cells #[.slice xa1 n1 xc1, .int .i64 (hd L1), .int .i64 (lst L1), .int .i64 f1, .int .i64 L1.length, .int .i64 cpA] 73))
        clear g1 g2 g3 N1 be
        go_wp2_with fail
        refine (take39_any (HC2.out.below HBE.out) (by omega)).mono ?_
        rintro e wf ⟨x2, rfl, N2, bf⟩
        obtain ⟨xa2, xc2, xr2, rfl, g1, g2, g3⟩ := N2.form
        have HN2 := hide N2
        have HBF := hide bf
        have HBDF := hide (hop HBE.out bf)
        have HBF2 := hide (HBDF.out.alloc HBDF.out.size (.cells #[.slice xa2 n2 xc2, .int .i64 (hd L2), .int .i64 (lst L2), .int .i64 f2, .int .i64 L2.length, .int .i64 cpD] 73))
        have hwe : we.heap.size < wf.heap.size := by have := bf.size; simp at this; omega
        clear g1 g2 g3 N2 bf
        go_wp2_with fail
        refine (equal40_any r HR.out (HJ1.out.below HBF2.out) (HJ2.out.below HBF2.out) (by omega) (by omega)).mono ?_
        rintro e wg ⟨rfl, bg⟩
        have box1 : wg.heap[we.heap.size]? = some (.cells #[.slice xa1 n1 xc1, .int .i64 (hd L1), .int .i64 (lst L1), .int .i64 f1, .int .i64 L1.length, .int .i64 cpA] 73) := by
          rw [bg.block _ (by simp; omega), Below.heap_alloc _ _ _ hwe, HBF.out.block _ (by simp)]
          exact heap_alloc_new we _
        have box2 : wg.heap[wf.heap.size]? = some (.cells #[.slice xa2 n2 xc2, .int .i64 (hd L2), .int .i64 (lst L2), .int .i64 f2, .int .i64 L2.length, .int .i64 cpD] 73) := by
          rw [bg.block _ (by simp)]
          exact heap_alloc_new wf _
        have l1 := loc_lt box1
        have l2 := loc_lt box2
        have HN1g := hide (HN1.out.belowG (hop (((hop ((Below.refl we.heap.size we).alloc (Nat.le_refl _) _) HBF.out)).alloc (Nat.le_of_lt hwe) _) bg))
        have HN2g := hide (HN2.out.belowG (hop ((Below.refl wf.heap.size wf).alloc (Nat.le_refl _) _) bg))
        have HBDG := hide (hop HBF2.out bg)
        have HC1g := hide (HC1.out.below HBDG.out)
        have HC2g := hide (HC2.out.below HBDG.out)
        have HBWG := hide (HBD.out.trans (HBDG.out.mono HBD.out.size))
        have HS : Hid (∀ w' : World, Below wg.heap.size wg w' → Below wg.heap.size wg w' ∧
            w'.cell? ⟨we.heap.size, 0, none⟩ = some (.slice xa1 n1 xc1) ∧ w'.cell? ⟨we.heap.size, 1, none⟩ = some (.int .i64 (hd L1)) ∧ w'.cell? ⟨we.heap.size, 2, none⟩ = some (.int .i64 (lst L1)) ∧ w'.cell? ⟨we.heap.size, 3, none⟩ = some (.int .i64 f1) ∧ w'.cell? ⟨we.heap.size, 4, none⟩ = some (.int .i64 L1.length) ∧ w'.cell? ⟨we.heap.size, 5, none⟩ = some (.int .i64 cpA) ∧
            w'.cell? ⟨wf.heap.size, 0, none⟩ = some (.slice xa2 n2 xc2) ∧ w'.cell? ⟨wf.heap.size, 1, none⟩ = some (.int .i64 (hd L2)) ∧ w'.cell? ⟨wf.heap.size, 2, none⟩ = some (.int .i64 (lst L2)) ∧ w'.cell? ⟨wf.heap.size, 3, none⟩ = some (.int .i64 f2) ∧ w'.cell? ⟨wf.heap.size, 4, none⟩ = some (.int .i64 L2.length) ∧ w'.cell? ⟨wf.heap.size, 5, none⟩ = some (.int .i64 cpD)) := by
          intro w' b'
          obtain ⟨y0, y1, y2, y3, y4, y5, _⟩ := blk_six ((b'.block _ l1).trans box1)
          obtain ⟨z0, z1, z2, z3, z4, z5, _⟩ := blk_six ((b'.block _ l2).trans box2)
          exact ⟨b', y0, y1, y2, y3, y4, y5, z0, z1, z2, z3, z4, z5⟩
        clear box1 box2 l1 l2 bg HN1 HN2 HBE HBF HBDF HBF2 HC1 HC2 HBD HBDG HJ1 HJ2 hwe
        have flag1 : Hid True := trivial
        have flag2 : Hid True := trivial
        go_wp2_with fail
        go_region_held3 (fun w' : World => Below wg.heap.size wg w' ∧
            w'.cell? ⟨we.heap.size, 0, none⟩ = some (.slice xa1 n1 xc1) ∧ w'.cell? ⟨we.heap.size, 1, none⟩ = some (.int .i64 (hd L1)) ∧ w'.cell? ⟨we.heap.size, 2, none⟩ = some (.int .i64 (lst L1)) ∧ w'.cell? ⟨we.heap.size, 3, none⟩ = some (.int .i64 f1) ∧ w'.cell? ⟨we.heap.size, 4, none⟩ = some (.int .i64 L1.length) ∧ w'.cell? ⟨we.heap.size, 5, none⟩ = some (.int .i64 cpA) ∧
            w'.cell? ⟨wf.heap.size, 0, none⟩ = some (.slice xa2 n2 xc2) ∧ w'.cell? ⟨wf.heap.size, 1, none⟩ = some (.int .i64 (hd L2)) ∧ w'.cell? ⟨wf.heap.size, 2, none⟩ = some (.int .i64 (lst L2)) ∧ w'.cell? ⟨wf.heap.size, 3, none⟩ = some (.int .i64 f2) ∧ w'.cell? ⟨wf.heap.size, 4, none⟩ = some (.int .i64 L2.length) ∧ w'.cell? ⟨wf.heap.size, 5, none⟩ = some (.int .i64 cpD))
          (first | exact HS.out _ (Below.drews wg) | exact HS.out _ (by assumption))
          (first
            | (go_at_call 39; clear flag1; refine (take39_any (HC1g.out.below (held_below (N := wg.heap.size) (W := wg) (by assumption))) ?_).mono ?_; omega; rintro e w5 ⟨v5, rfl, N5, b5⟩; have bb5 := hop (held_below (N := wg.heap.size) (W := wg) (by assumption)) b5; have HN5 := hide N5; clear N5 b5)
            | (go_at_call 41; clear flag2; refine (same41_any _ _ _ _ _ (HN1g.out.belowG (held_below (N := wg.heap.size) (W := wg) (by assumption))) HN5.out ?_).mono ?_; omega; rintro e w6 ⟨rfl, b6⟩; have bb6 := hop (held_below (N := wg.heap.size) (W := wg) (by assumption)) b6; clear b6)
            | (go_at_call 39; refine (take39_any (HC2g.out.below (held_below (N := wg.heap.size) (W := wg) (by assumption))) ?_).mono ?_; omega; rintro e w7 ⟨v7, rfl, N7, b7⟩; have bb7 := hop (held_below (N := wg.heap.size) (W := wg) (by assumption)) b7; have HN7 := hide N7; clear N7 b7)
            | (go_at_call 41; refine (same41_any _ _ _ _ _ (HN2g.out.belowG (held_below (N := wg.heap.size) (W := wg) (by assumption))) HN7.out ?_).mono ?_; omega; rintro e w8 ⟨rfl, b8⟩; have bb8 := hop (held_below (N := wg.heap.size) (W := wg) (by assumption)) b8; clear b8))
        have HF := hide (HBWG.out.trans (bb8.mono HBWG.out.size))
        clear bb5 bb6 bb7 bb8 HS
        go_wp2
        go_ret
        exact ⟨rfl, HF.out⟩
      have q0b : (mode % 3 == 0) = false := by simp [q0]
      by_cases q1 : mode % 3 = 1
      · have q1b : (mode % 3 == 1) = true := by simp [q1]
        clear q0 q1
        go_wp2_with fail
        have t1 := HT1.out.len.1
        refine (restore35_any ca (max ca 0) rfl HT1.out.ent HT1.out.dis HT1.out.len.2 (by omega)).mono ?_
        rintro e w2' ⟨rfl, ⟨nv2, n2, f2, I2, hn2⟩, b2⟩
        have HI2' := hide I2
        have HB2' := hide b2
        clear I2 b2
        go_wp2_with fail
        refine (clone36_any (HT1.out.ent.below HB2'.out) (by omega)).mono ?_
        rintro e w2 ⟨v2, rfl, E2, b3⟩
        have HI2 := hide (HI2'.out.below b3)
        have HE2 := hide E2
        have HB2 := hide (hop HB2'.out b3)
        have hn2' : n2 ≤ 300 := by omega
        clear E2 b3 HI2' HB2'
        obtain ⟨M2, hM2⟩ : ∃ y, y = M := ⟨M, rfl⟩
        rw [← hM2] at HI2 HE2
        clear hM2
        obtain ⟨nv1, n1, f1, I1, hn1, E1, _, b1⟩ := HT1.out
        have HI1 := hide (I1.below HB2.out)
        have HE1 := hide (E1.below HB2.out)
        have HBW := hide (b1.trans (HB2.out.mono b1.size))
        have hn1' : n1 ≤ 300 := by omega
        clear I1 E1 b1 HT1 HB2
        obtain ⟨cpA, hcpA⟩ : ∃ x, max ca 0 = x := ⟨_, rfl⟩
        obtain ⟨cpD, hcpD⟩ : ∃ x, max ca 0 = x := ⟨_, rfl⟩
        rw [hcpA] at HI1
        rw [hcpD] at HI2
        have HCA := hide hcpA
        have HCD := hide hcpD
        clear hcpA hcpD
        obtain ⟨r, hr⟩ : ∃ r, decide (cpA = cpD ∧ M = M2) = r := ⟨_, rfl⟩
        have HR := hide hr
        clear hr
        go_wp2_with fail
        refine (norm38_to ca cpA HCA.out _).mono ?_
        rintro e w' ⟨rfl, h'⟩
        rw [h']
        clear h' w'
        go_wp2_with fail
        refine (norm38_to ca cpD HCD.out _).mono ?_
        rintro e w' ⟨rfl, h'⟩
        rw [h']
        clear h' w'
        go_wp2_with fail
        refine (eq37_any cpA cpD r HR.out HE1.out HE2.out (by have := HI1.out.len_n; omega) (by have := HI2.out.len_n; omega)).mono ?_
        rintro e wd ⟨rfl, bd⟩
        have HJ1 := hide (HI1.out.below bd)
        have HJ2 := hide (HI2.out.below bd)
        have HBD := hide (HBW.out.trans (bd.mono HBW.out.size))
        clear HI1 HI2 HE1 HE2 HBW bd
        obtain ⟨K1, V1, P1, X1, L1, F1, c1, r1, e1, d1, l1⟩ := HJ1.out
        obtain ⟨K2, V2, P2, X2, L2, F2, c2, r2, e2, d2, l2⟩ := HJ2.out
        have HC1 := hide c1
        have HC2 := hide c2
        clear c1 c2 r1 r2 e1 e2 d1 d2 l1 l2
        go_wp2_with fail
        refine (take39_any HC1.out (by omega)).mono ?_
        rintro e we ⟨x1, rfl, N1, be⟩
        obtain ⟨xa1, xc1, xr1, rfl, g1, g2, g3⟩ := N1.form
        have HN1 := hide N1
        have HBE := hide (be.alloc be.size (.cells #[.slice xa1 n1 xc1, .int .i64 (hd L1), .int .i64 (lst L1), .int .i64 f1, .int .i64 L1.length, .int .i64 cpA] 73))
        clear g1 g2 g3 N1 be
        go_wp2_with fail
        refine (take39_any (HC2.out.below HBE.out) (by omega)).mono ?_
        rintro e wf ⟨x2, rfl, N2, bf⟩
        obtain ⟨xa2, xc2, xr2, rfl, g1, g2, g3⟩ := N2.form
        have HN2 := hide N2
        have HBF := hide bf
        have HBDF := hide (hop HBE.out bf)
        have HBF2 := hide (HBDF.out.alloc HBDF.out.size (.cells #[.slice xa2 n2 xc2, .int .i64 (hd L2), .int .i64 (lst L2), .int .i64 f2, .int .i64 L2.length, .int .i64 cpD] 73))
        have hwe : we.heap.size < wf.heap.size := by have := bf.size; simp at this; omega
        clear g1 g2 g3 N2 bf
        go_wp2_with fail
        refine (equal40_any r HR.out (HJ1.out.below HBF2.out) (HJ2.out.below HBF2.out) (by omega) (by omega)).mono ?_
        rintro e wg ⟨rfl, bg⟩
        have box1 : wg.heap[we.heap.size]? = some (.cells #[.slice xa1 n1 xc1, .int .i64 (hd L1), .int .i64 (lst L1), .int .i64 f1, .int .i64 L1.length, .int .i64 cpA] 73) := by
          rw [bg.block _ (by simp; omega), Below.heap_alloc _ _ _ hwe, HBF.out.block _ (by simp)]
          exact heap_alloc_new we _
        have box2 : wg.heap[wf.heap.size]? = some (.cells #[.slice xa2 n2 xc2, .int .i64 (hd L2), .int .i64 (lst L2), .int .i64 f2, .int .i64 L2.length, .int .i64 cpD] 73) := by
          rw [bg.block _ (by simp)]
          exact heap_alloc_new wf _
        have l1 := loc_lt box1
        have l2 := loc_lt box2
        have HN1g := hide (HN1.out.belowG (hop (((hop ((Below.refl we.heap.size we).alloc (Nat.le_refl _) _) HBF.out)).alloc (Nat.le_of_lt hwe) _) bg))
        have HN2g := hide (HN2.out.belowG (hop ((Below.refl wf.heap.size wf).alloc (Nat.le_refl _) _) bg))
        have HBDG := hide (hop HBF2.out bg)
        have HC1g := hide (HC1.out.below HBDG.out)
        have HC2g := hide (HC2.out.below HBDG.out)
        have HBWG := hide (HBD.out.trans (HBDG.out.mono HBD.out.size))
        have HS : Hid (∀ w' : World, Below wg.heap.size wg w' → Below wg.heap.size wg w' ∧
            w'.cell? ⟨we.heap.size, 0, none⟩ = some (.slice xa1 n1 xc1) ∧ w'.cell? ⟨we.heap.size, 1, none⟩ = some (.int .i64 (hd L1)) ∧ w'.cell? ⟨we.heap.size, 2, none⟩ = some (.int .i64 (lst L1)) ∧ w'.cell? ⟨we.heap.size, 3, none⟩ = some (.int .i64 f1) ∧ w'.cell? ⟨we.heap.size, 4, none⟩ = some (.int .i64 L1.length) ∧ w'.cell? ⟨we.heap.size, 5, none⟩ = some (.int .i64 cpA) ∧
            w'.cell? ⟨wf.heap.size, 0, none⟩ = some (.slice xa2 n2 xc2) ∧ w'.cell? ⟨wf.heap.size, 1, none⟩ = some (.int .i64 (hd L2)) ∧ w'.cell? ⟨wf.heap.size, 2, none⟩ = some (.int .i64 (lst L2)) ∧ w'.cell? ⟨wf.heap.size, 3, none⟩ = some (.int .i64 f2) ∧ w'.cell? ⟨wf.heap.size, 4, none⟩ = some (.int .i64 L2.length) ∧ w'.cell? ⟨wf.heap.size, 5, none⟩ = some (.int .i64 cpD)) := by
          intro w' b'
          obtain ⟨y0, y1, y2, y3, y4, y5, _⟩ := blk_six ((b'.block _ l1).trans box1)
          obtain ⟨z0, z1, z2, z3, z4, z5, _⟩ := blk_six ((b'.block _ l2).trans box2)
          exact ⟨b', y0, y1, y2, y3, y4, y5, z0, z1, z2, z3, z4, z5⟩
        clear box1 box2 l1 l2 bg HN1 HN2 HBE HBF HBDF HBF2 HC1 HC2 HBD HBDG HJ1 HJ2 hwe
        have flag1 : Hid True := trivial
        have flag2 : Hid True := trivial
        go_wp2_with fail
        go_region_held3 (fun w' : World => Below wg.heap.size wg w' ∧
            w'.cell? ⟨we.heap.size, 0, none⟩ = some (.slice xa1 n1 xc1) ∧ w'.cell? ⟨we.heap.size, 1, none⟩ = some (.int .i64 (hd L1)) ∧ w'.cell? ⟨we.heap.size, 2, none⟩ = some (.int .i64 (lst L1)) ∧ w'.cell? ⟨we.heap.size, 3, none⟩ = some (.int .i64 f1) ∧ w'.cell? ⟨we.heap.size, 4, none⟩ = some (.int .i64 L1.length) ∧ w'.cell? ⟨we.heap.size, 5, none⟩ = some (.int .i64 cpA) ∧
            w'.cell? ⟨wf.heap.size, 0, none⟩ = some (.slice xa2 n2 xc2) ∧ w'.cell? ⟨wf.heap.size, 1, none⟩ = some (.int .i64 (hd L2)) ∧ w'.cell? ⟨wf.heap.size, 2, none⟩ = some (.int .i64 (lst L2)) ∧ w'.cell? ⟨wf.heap.size, 3, none⟩ = some (.int .i64 f2) ∧ w'.cell? ⟨wf.heap.size, 4, none⟩ = some (.int .i64 L2.length) ∧ w'.cell? ⟨wf.heap.size, 5, none⟩ = some (.int .i64 cpD))
          (first | exact HS.out _ (Below.drews wg) | exact HS.out _ (by assumption))
          (first
            | (go_at_call 39; clear flag1; refine (take39_any (HC1g.out.below (held_below (N := wg.heap.size) (W := wg) (by assumption))) ?_).mono ?_; omega; rintro e w5 ⟨v5, rfl, N5, b5⟩; have bb5 := hop (held_below (N := wg.heap.size) (W := wg) (by assumption)) b5; have HN5 := hide N5; clear N5 b5)
            | (go_at_call 41; clear flag2; refine (same41_any _ _ _ _ _ (HN1g.out.belowG (held_below (N := wg.heap.size) (W := wg) (by assumption))) HN5.out ?_).mono ?_; omega; rintro e w6 ⟨rfl, b6⟩; have bb6 := hop (held_below (N := wg.heap.size) (W := wg) (by assumption)) b6; clear b6)
            | (go_at_call 39; refine (take39_any (HC2g.out.below (held_below (N := wg.heap.size) (W := wg) (by assumption))) ?_).mono ?_; omega; rintro e w7 ⟨v7, rfl, N7, b7⟩; have bb7 := hop (held_below (N := wg.heap.size) (W := wg) (by assumption)) b7; have HN7 := hide N7; clear N7 b7)
            | (go_at_call 41; refine (same41_any _ _ _ _ _ (HN2g.out.belowG (held_below (N := wg.heap.size) (W := wg) (by assumption))) HN7.out ?_).mono ?_; omega; rintro e w8 ⟨rfl, b8⟩; have bb8 := hop (held_below (N := wg.heap.size) (W := wg) (by assumption)) b8; clear b8))
        have HF := hide (HBWG.out.trans (bb8.mono HBWG.out.size))
        clear bb5 bb6 bb7 bb8 HS
        go_wp2
        go_ret
        exact ⟨rfl, HF.out⟩
      have q1b : (mode % 3 == 1) = false := by simp [q1]
      clear q0 q1
      obtain ⟨nv2, n2, f2, I2, hn2, E2, _, b2⟩ := HT1.out
      have HI2 := hide I2
      have HE2 := hide E2
      have HB2 := hide (Below.refl w1.heap.size w1)
      have hn2' : n2 ≤ 300 := by omega
      clear I2 E2 b2
      obtain ⟨M2, hM2⟩ : ∃ y, y = M := ⟨M, rfl⟩
      rw [← hM2] at HI2 HE2
      clear hM2
      obtain ⟨nv1, n1, f1, I1, hn1, E1, _, b1⟩ := HT1.out
      have HI1 := hide (I1.below HB2.out)
      have HE1 := hide (E1.below HB2.out)
      have HBW := hide (b1.trans (HB2.out.mono b1.size))
      have hn1' : n1 ≤ 300 := by omega
      clear I1 E1 b1 HT1 HB2
      obtain ⟨cpA, hcpA⟩ : ∃ x, max ca 0 = x := ⟨_, rfl⟩
      obtain ⟨cpD, hcpD⟩ : ∃ x, max ca 0 = x := ⟨_, rfl⟩
      rw [hcpA] at HI1
      rw [hcpD] at HI2
      have HCA := hide hcpA
      have HCD := hide hcpD
      clear hcpA hcpD
      obtain ⟨r, hr⟩ : ∃ r, decide (cpA = cpD ∧ M = M2) = r := ⟨_, rfl⟩
      have HR := hide hr
      clear hr
      go_wp2_with fail
      refine (norm38_to ca cpA HCA.out _).mono ?_
      rintro e w' ⟨rfl, h'⟩
      rw [h']
      clear h' w'
      go_wp2_with fail
      refine (norm38_to ca cpD HCD.out _).mono ?_
      rintro e w' ⟨rfl, h'⟩
      rw [h']
      clear h' w'
      go_wp2_with fail
      refine (eq37_any cpA cpD r HR.out HE1.out HE2.out (by have := HI1.out.len_n; omega) (by have := HI2.out.len_n; omega)).mono ?_
      rintro e wd ⟨rfl, bd⟩
      have HJ1 := hide (HI1.out.below bd)
      have HJ2 := hide (HI2.out.below bd)
      have HBD := hide (HBW.out.trans (bd.mono HBW.out.size))
      clear HI1 HI2 HE1 HE2 HBW bd
      obtain ⟨K1, V1, P1, X1, L1, F1, c1, r1, e1, d1, l1⟩ := HJ1.out
      obtain ⟨K2, V2, P2, X2, L2, F2, c2, r2, e2, d2, l2⟩ := HJ2.out
      have HC1 := hide c1
      have HC2 := hide c2
      clear c1 c2 r1 r2 e1 e2 d1 d2 l1 l2
      go_wp2_with fail
      refine (take39_any HC1.out (by omega)).mono ?_
      rintro e we ⟨x1, rfl, N1, be⟩
      obtain ⟨xa1, xc1, xr1, rfl, g1, g2, g3⟩ := N1.form
      have HN1 := hide N1
      have HBE := hide (be.alloc be.size (.cells #[.slice xa1 n1 xc1, .int .i64 (hd L1), .int .i64 (lst L1), .int .i64 f1, .int .i64 L1.length, .int .i64 cpA] 73))
      clear g1 g2 g3 N1 be
      go_wp2_with fail
      refine (take39_any (HC2.out.below HBE.out) (by omega)).mono ?_
      rintro e wf ⟨x2, rfl, N2, bf⟩
      obtain ⟨xa2, xc2, xr2, rfl, g1, g2, g3⟩ := N2.form
      have HN2 := hide N2
      have HBF := hide bf
      have HBDF := hide (hop HBE.out bf)
      have HBF2 := hide (HBDF.out.alloc HBDF.out.size (.cells #[.slice xa2 n2 xc2, .int .i64 (hd L2), .int .i64 (lst L2), .int .i64 f2, .int .i64 L2.length, .int .i64 cpD] 73))
      have hwe : we.heap.size < wf.heap.size := by have := bf.size; simp at this; omega
      clear g1 g2 g3 N2 bf
      go_wp2_with fail
      refine (equal40_any r HR.out (HJ1.out.below HBF2.out) (HJ2.out.below HBF2.out) (by omega) (by omega)).mono ?_
      rintro e wg ⟨rfl, bg⟩
      have box1 : wg.heap[we.heap.size]? = some (.cells #[.slice xa1 n1 xc1, .int .i64 (hd L1), .int .i64 (lst L1), .int .i64 f1, .int .i64 L1.length, .int .i64 cpA] 73) := by
        rw [bg.block _ (by simp; omega), Below.heap_alloc _ _ _ hwe, HBF.out.block _ (by simp)]
        exact heap_alloc_new we _
      have box2 : wg.heap[wf.heap.size]? = some (.cells #[.slice xa2 n2 xc2, .int .i64 (hd L2), .int .i64 (lst L2), .int .i64 f2, .int .i64 L2.length, .int .i64 cpD] 73) := by
        rw [bg.block _ (by simp)]
        exact heap_alloc_new wf _
      have l1 := loc_lt box1
      have l2 := loc_lt box2
      have HN1g := hide (HN1.out.belowG (hop (((hop ((Below.refl we.heap.size we).alloc (Nat.le_refl _) _) HBF.out)).alloc (Nat.le_of_lt hwe) _) bg))
      have HN2g := hide (HN2.out.belowG (hop ((Below.refl wf.heap.size wf).alloc (Nat.le_refl _) _) bg))
      have HBDG := hide (hop HBF2.out bg)
      have HC1g := hide (HC1.out.below HBDG.out)
      have HC2g := hide (HC2.out.below HBDG.out)
      have HBWG := hide (HBD.out.trans (HBDG.out.mono HBD.out.size))
      have HS : Hid (∀ w' : World, Below wg.heap.size wg w' → Below wg.heap.size wg w' ∧
          w'.cell? ⟨we.heap.size, 0, none⟩ = some (.slice xa1 n1 xc1) ∧ w'.cell? ⟨we.heap.size, 1, none⟩ = some (.int .i64 (hd L1)) ∧ w'.cell? ⟨we.heap.size, 2, none⟩ = some (.int .i64 (lst L1)) ∧ w'.cell? ⟨we.heap.size, 3, none⟩ = some (.int .i64 f1) ∧ w'.cell? ⟨we.heap.size, 4, none⟩ = some (.int .i64 L1.length) ∧ w'.cell? ⟨we.heap.size, 5, none⟩ = some (.int .i64 cpA) ∧
          w'.cell? ⟨wf.heap.size, 0, none⟩ = some (.slice xa2 n2 xc2) ∧ w'.cell? ⟨wf.heap.size, 1, none⟩ = some (.int .i64 (hd L2)) ∧ w'.cell? ⟨wf.heap.size, 2, none⟩ = some (.int .i64 (lst L2)) ∧ w'.cell? ⟨wf.heap.size, 3, none⟩ = some (.int .i64 f2) ∧ w'.cell? ⟨wf.heap.size, 4, none⟩ = some (.int .i64 L2.length) ∧ w'.cell? ⟨wf.heap.size, 5, none⟩ = some (.int .i64 cpD)) := by
        intro w' b'
        obtain ⟨y0, y1, y2, y3, y4, y5, _⟩ := blk_six ((b'.block _ l1).trans box1)
        obtain ⟨z0, z1, z2, z3, z4, z5, _⟩ := blk_six ((b'.block _ l2).trans box2)
        exact ⟨b', y0, y1, y2, y3, y4, y5, z0, z1, z2, z3, z4, z5⟩
      clear box1 box2 l1 l2 bg HN1 HN2 HBE HBF HBDF HBF2 HC1 HC2 HBD HBDG HJ1 HJ2 hwe
      have flag1 : Hid True := trivial
      have flag2 : Hid True := trivial
      go_wp2_with fail
      go_region_held3 (fun w' : World => Below wg.heap.size wg w' ∧
          w'.cell? ⟨we.heap.size, 0, none⟩ = some (.slice xa1 n1 xc1) ∧ w'.cell? ⟨we.heap.size, 1, none⟩ = some (.int .i64 (hd L1)) ∧ w'.cell? ⟨we.heap.size, 2, none⟩ = some (.int .i64 (lst L1)) ∧ w'.cell? ⟨we.heap.size, 3, none⟩ = some (.int .i64 f1) ∧ w'.cell? ⟨we.heap.size, 4, none⟩ = some (.int .i64 L1.length) ∧ w'.cell? ⟨we.heap.size, 5, none⟩ = some (.int .i64 cpA) ∧
          w'.cell? ⟨wf.heap.size, 0, none⟩ = some (.slice xa2 n2 xc2) ∧ w'.cell? ⟨wf.heap.size, 1, none⟩ = some (.int .i64 (hd L2)) ∧ w'.cell? ⟨wf.heap.size, 2, none⟩ = some (.int .i64 (lst L2)) ∧ w'.cell? ⟨wf.heap.size, 3, none⟩ = some (.int .i64 f2) ∧ w'.cell? ⟨wf.heap.size, 4, none⟩ = some (.int .i64 L2.length) ∧ w'.cell? ⟨wf.heap.size, 5, none⟩ = some (.int .i64 cpD))
        (first | exact HS.out _ (Below.drews wg) | exact HS.out _ (by assumption))
        (first
          | (go_at_call 39; clear flag1; refine (take39_any (HC1g.out.below (held_below (N := wg.heap.size) (W := wg) (by assumption))) ?_).mono ?_; omega; rintro e w5 ⟨v5, rfl, N5, b5⟩; have bb5 := hop (held_below (N := wg.heap.size) (W := wg) (by assumption)) b5; have HN5 := hide N5; clear N5 b5)
          | (go_at_call 41; clear flag2; refine (same41_any _ _ _ _ _ (HN1g.out.belowG (held_below (N := wg.heap.size) (W := wg) (by assumption))) HN5.out ?_).mono ?_; omega; rintro e w6 ⟨rfl, b6⟩; have bb6 := hop (held_below (N := wg.heap.size) (W := wg) (by assumption)) b6; clear b6)
          | (go_at_call 39; refine (take39_any (HC2g.out.below (held_below (N := wg.heap.size) (W := wg) (by assumption))) ?_).mono ?_; omega; rintro e w7 ⟨v7, rfl, N7, b7⟩; have bb7 := hop (held_below (N := wg.heap.size) (W := wg) (by assumption)) b7; have HN7 := hide N7; clear N7 b7)
          | (go_at_call 41; refine (same41_any _ _ _ _ _ (HN2g.out.belowG (held_below (N := wg.heap.size) (W := wg) (by assumption))) HN7.out ?_).mono ?_; omega; rintro e w8 ⟨rfl, b8⟩; have bb8 := hop (held_below (N := wg.heap.size) (W := wg) (by assumption)) b8; clear b8))
      have HF := hide (HBWG.out.trans (bb8.mono HBWG.out.size))
      clear bb5 bb6 bb7 bb8 HS
      go_wp2
      go_ret
      exact ⟨rfl, HF.out⟩
    · have hl3' : (300 : Int) < (len3 : Int) := by omega
      go_enter Ybgv.func8, Ybgv.ntmps8
      go_wp2
      go_ret
      exact ⟨rfl, Below.refl _ _⟩
  · have hl2' : (300 : Int) < (len2 : Int) := by omega
    go_enter Ybgv.func8, Ybgv.ntmps8
    go_wp2
    go_ret
    exact ⟨rfl, Below.refl _ _⟩

end Go.Proofs.Ymwhbg
