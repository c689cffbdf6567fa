/-
  The law QAG: Restore.
-/
import Derived.Test.YmwhbgQagT
namespace Go.Proofs.Ymwhbg
open Go.RowKit
set_option linter.unusedVariables false
set_option linter.unusedSimpArgs false

theorem find_miss {w : World} {B cb : Nat} {nv : Value} {n : Nat} {f cp : Int} {m : List (Int × Int)} (key : Int) (I : Inv w B cb nv n f cp m) (hn : n ≤ 100000) (hk : ∀ x ∈ m, x.1 ≠ key) :
    Calls Ybgv.prog 47 #[.pointer (some ⟨cb, 0, none⟩), .int .i64 key] w fun e w' => e = .returned (.int .i64 (-1)) ∧ w' = w := by
  obtain ⟨K, V, P, X, L, F, c, r, rfl, d, l⟩ := I
  have hs : slotOf K L key = -1 := slotOf_miss (fun s hs => hk (K s, V s) (List.mem_map.2 ⟨s, hs, rfl⟩))
  have := find_any key c hn (fun s hs => r.ltL s hs) r.lenL r.dl
  rw [hs] at this
  exact this
theorem Inv.capCell {w : World} {B cb : Nat} {nv : Value} {n : Nat} {f cp : Int} {m : List (Int × Int)} (I : Inv w B cb nv n f cp m) : w.cell? ⟨cb, 5, none⟩ = some (.int .i64 cp) := by
  obtain ⟨K, V, P, X, L, F, c, r, rfl, d, l⟩ := I
  exact c.c5

set_option maxHeartbeats 2000000 in
set_option maxRecDepth 100000 in
theorem restore35_any {w : World} {base : Nat} {v : Value} {m : List (Int × Int)} (cap cp : Int) (hcp : max cap 0 = cp) (E : EntB w base v m) (d : distinct m) (hl : (m.length : Int) ≤ cp) (hm : m.length ≤ 50000) :
    Calls Ybgv.prog 35 #[.int .i64 cap, v] w fun e w' => e = .returned (.tuple #[.pointer (some ⟨w.heap.size, 0, none⟩), .bool true]) ∧ (∃ nv n f, Inv w' w.heap.size w.heap.size nv n f cp m ∧ n ≤ m.length) ∧ Below w.heap.size w w' := by
  obtain ⟨a, c2, b, rfl, ha, _, _, _⟩ := E.form
  have HE := hide E
  have HA := hide ha
  have HD := hide d
  have HCP := hide hcp
  have hl' : ¬ (cp < (m.length : Int)) := by omega
  have hbl : Hid (0 < m.length → b < w.heap.size) := fun hp => by obtain rfl := ha hp; exact (E.lt b rfl).2
  have HL := hide hl
  clear E ha d hcp hl
  go_enter Ybgv.func35, Ybgv.ntmps35
  go_wp2_with fail
  refine (new_any cap w w.heap.size (Nat.le_refl _)).mono ?_
  rintro e w1 ⟨rfl, I1, b1⟩
  rw [HCP.out] at I1
  have c5 := I1.capCell
  have HI1 := hide I1
  have HB1 := hide b1
  clear I1 b1
  go_wp2
  clear c5
  go_loopw [7] (fun i wr => ∃ A D, m = A ++ D ∧ i = .int .i64 ((A.length : Int) - 1) ∧ (∃ nv n f, Inv wr w.heap.size w.heap.size nv n f cp D ∧ n ≤ D.length) ∧ Below w.heap.size w wr) (fun i _ => (intOf i + 1).toNat)
  case atStart => exact ⟨m, [], by simp, rfl, ⟨_, _, _, HI1.out, Nat.zero_le _⟩, HB1.out⟩
  case round =>
    clear HI1 HB1
    obtain ⟨A, D, hAD, rfl, ⟨nv, n, f, I, hn⟩, bw⟩ := hrel
    rcases snocE_cases A with rfl | ⟨A, ⟨k, x⟩, rfl⟩
    · have HI : Hid (∃ nv n f, Inv wr w.heap.size w.heap.size nv n f cp m ∧ n ≤ m.length) := ⟨nv, n, f, by rw [hAD]; exact I, by rw [hAD]; exact hn⟩
      have HB := hide bw
      clear I hn bw hAD
      simp only [List.length_nil]
      go_wp2
      go_ret2
      exact ⟨rfl, HI.out, HB.out⟩
    · have hlm : m.length = A.length + 1 + D.length := by rw [hAD]; simp; omega
      have hlt : A.length < m.length := by omega
      have hlt' : (A.length : Int) < (m.length : Int) := by omega
      have he : m[A.length]? = some (k, x) := by rw [hAD]; simp
      obtain rfl := HA.out (by omega)
      have hbw := hbl.out (by omega)
      obtain ⟨p1, p2⟩ := (HE.out.below bw).cells he
      simp only at p1 p2
      have hkD : ∀ y ∈ D, y.1 ≠ k := by
        have := HD.out
        rw [hAD] at this
        intro y hy e
        unfold distinct at this
        rw [List.map_append] at this
        exact (List.nodup_append.1 this).2.2 k (by simp) y.1 (List.mem_map.2 ⟨y, hy, rfl⟩) e.symm
      have hput : mPut cp D k x = (k, x) :: D := mPut_room (by have := HL.out; omega) (hasK_none hkD) (by have := HL.out; omega)
      have HAD := hide hAD
      have HI := hide I
      have HB := hide bw
      have HK := hide hkD
      have HPUT := hide hput
      have HLM := hide hlm
      have hD : D.length ≤ 50000 := by omega
      clear I bw hAD hkD hput he hlm
      rw [show (((A ++ [(k, x)]).length : Int) - 1) = (A.length : Int) by simp]
      go_wp2_with fail
      refine (find_miss k HI.out (by omega) HK.out).mono ?_
      rintro e wr ⟨rfl, rfl⟩
      go_wp2_with fail
      go_region_held3 (fun w' => w'.cell? ⟨b, A.length * 2, none⟩ = some (.int .i64 k) ∧ w'.cell? ⟨b, A.length * 2 + 1, none⟩ = some (.int .i64 x)) (go_keep)
        (first
          | (go_at_call 11; refine (put_any k x HI.out.drew ?_).mono ?_; omega; rintro e w4 ⟨rfl, ⟨nv', n', f', I', hn', hf⟩, g⟩
             have bg := g.toBelow (B := w.heap.size) HB.out.size (fun q hq => (HI.out.own_lt q hq).1)
             have p1' := (bg.cell (p := ⟨b, A.length * 2, none⟩) hbw).trans p1
             have p2' := (bg.cell (p := ⟨b, A.length * 2 + 1, none⟩) hbw).trans p2
             rw [HPUT.out] at I'
             have HI' := hide I'
             have HB' := hide (HB.out.drew.trans bg)
             clear I' hf g bg))
      clear p1 p2 p1' p2'
      go_wp2
      go_roundw
      case rel => exact ⟨A, (k, x) :: D, by rw [HAD.out]; simp, rfl, ⟨nv', n', f', HI'.out, by simp; omega⟩, HB'.out⟩
      case measure => first | (simp [intOf]; done) | (simp [intOf]; omega)

end Go.Proofs.Ymwhbg
