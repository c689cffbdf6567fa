/-
  The law QAG: slices.Clone, slices.Equal, the model's comparison, Equal.
-/
import Derived.Test.YmwhbgQagM
namespace Go.Proofs.Ymwhbg
open Go.RowKit
set_option linter.unusedVariables false
set_option linter.unusedSimpArgs false

set_option maxHeartbeats 1000000 in
theorem clone36_any {w : World} {base : Nat} {v : Value} {m : List (Int × Int)} (E : EntB w base v m) (hm : m.length ≤ 50000) :
    Calls Ybgv.prog 36 #[v] w fun e w' => ∃ v', e = .returned v' ∧ EntB w' w.heap.size v' m ∧ Below w.heap.size w w' := by
  obtain ⟨a, cap, b, rfl, ha, han, has, _⟩ := E.form
  obtain ⟨i0, hi, hz0, hz1, hz2⟩ := info_parts Ybgv.info29
  have HE := hide E
  have HN := hide han
  cases a with
  | none =>
    obtain ⟨h1, h2⟩ := han rfl
    have hm0 : m = [] := List.eq_nil_of_length_eq_zero h1
    subst hm0
    subst h2
    clear E ha han has hi hz0 hz1 hz2
    have he : ∀ w : World, (binOp .eql 25 (.slice none 0 0) (.slice none 0 0)).run Ybgv.prog w = .ok (.bool true) w := fun _ => rfl
    go_enter Ybgv.func36, Ybgv.ntmps36
    go_wp2
    go_ret
    exact ⟨_, rfl, EntB.nil _ _, Below.refl _ _⟩
  | some ad =>
    clear E ha han has
    have he : ∀ w : World, (binOp .eql 25 (.slice (some ad) m.length cap) (.slice none 0 0)).run Ybgv.prog w = .ok (.bool false) w := fun _ => rfl
    go_enter Ybgv.func36, Ybgv.ntmps36
    go_wp2_with (at_builtin; refine wpList_append_all _ rfl (.tmp 5) (.tmp 6) 25 rfl w.heap.size 29 i0 (.agg #[.int .i64 0, .int .i64 0]) 2 16 Ybgv.underlying25 hi hz0 hz1 hz2 rfl (by decide) (.slice (some ⟨w.heap.size, 0, none⟩) 0 0) 0 [] rfl (World.ownsRow_lit w #[] 0 (Nat.le_refl _) (by unfold maxLen; omega) rfl) (some ad) m.length cap (flatE m) rfl (flatE_length _) HN.out (HE.out.src ((Below.refl _ _).alloc (Nat.le_refl _) _)) (fun u hu => flatE_one u _ hu) (by unfold maxLen; omega) (by omega) (by simp) ?_)
    intro v5 w5 h5 g5
    have HF5 := hide (EntB.of (m := m) h5 (by simp) (by simp))
    have HB5 := hide (Below.grown ((Below.refl w.heap.size w).alloc (Nat.le_refl _) _) g5 (by simp) (by intro q hq; simp [Value.ownBlock] at hq; omega))
    clear h5 g5
    go_wp2
    go_ret
    exact ⟨_, rfl, HF5.out, HB5.out⟩

theorem Nodes.one {w : World} {base : Nat} {v : Value} {n : Nat} {xs : List Value} {K V P X : Nat → Int} (h1 : w.ownsRow base 42 4 v n xs) (h2 : ∀ j, j < n → xs[j * 4]? = some (.int .i64 (K j)) ∧ xs[j * 4 + 1]? = some (.int .i64 (V j)) ∧ xs[j * 4 + 2]? = some (.int .i64 (P j)) ∧ xs[j * 4 + 3]? = some (.int .i64 (X j))) : ∀ u ∈ xs, u.oneCell' = true := by
  intro u hu
  obtain ⟨i, hi, rfl⟩ := List.getElem_of_mem hu
  have hl := h1.1
  obtain ⟨a1, a2, a3, a4⟩ := h2 (i / 4) (by omega)
  have hi4 : ∀ u, xs[i]? = some u → u.oneCell' = true → xs[i].oneCell' = true := by
    intro u h1 h2
    rw [List.getElem?_eq_getElem hi] at h1
    rw [Option.some.inj h1]; exact h2
  rcases (by omega : i / 4 * 4 = i ∨ i / 4 * 4 + 1 = i ∨ i / 4 * 4 + 2 = i ∨ i / 4 * 4 + 3 = i) with e | e | e | e
  · rw [e] at a1; exact hi4 _ a1 rfl
  · rw [e] at a2; exact hi4 _ a2 rfl
  · rw [e] at a3; exact hi4 _ a3 rfl
  · rw [e] at a4; exact hi4 _ a4 rfl

theorem owns_src {w w1 : World} {base : Nat} {e : TypeId} {size : Nat} {a : Option Addr} {N n cap : Nat} {xs : List Value} (h : w.ownsRow base e size (.slice a N cap) n xs) (b : Below w.heap.size w w1) : ∀ ad, a = some ad → ∀ j u, xs[j]? = some u → w1.cell? (ad.add j) = some u := by
  intro ad had j u hu
  have h' : w1.ownsRow base e size (.slice a N cap) n xs := ownsRow_heap h (fun k hk => b.block k (h.lt k hk).2)
  subst had
  rcases h'.2 with ⟨h0, _⟩ | ⟨g, cap', cur, h0, _⟩
  · simp at h0
  · simp only [Value.slice.injEq, Option.some.injEq] at h0
    obtain ⟨rfl, _, _⟩ := h0
    exact World.ownsRow.cells h' rfl j u hu

set_option maxHeartbeats 1000000 in
theorem clone58_any {w : World} {base : Nat} {v : Value} {n : Nat} {K V P X : Nat → Int} (N : Nodes w base v n K V P X) (hn : n ≤ 100000) :
    Calls Ybgv.prog 58 #[v] w fun e w' => ∃ v', e = .returned v' ∧ Nodes w' w.heap.size v' n K V P X ∧ Below w.heap.size w w' := by
  obtain ⟨a, cap, b, rfl, ha, han, has⟩ := N.form
  obtain ⟨xs, N1, N2⟩ := N
  obtain ⟨i0, hi, hz0, hz1, hz2⟩ := info_parts Ybgv.info42
  have HE := hide N1
  have HE2 := hide N2
  have HN := hide han
  have HX := hide N1.1
  have HO := hide (Nodes.one N1 N2)
  cases a with
  | none =>
    obtain ⟨h1, h2⟩ := han rfl
    subst h1
    subst h2
    clear N1 N2 ha han has hi hz0 hz1 hz2
    have he : ∀ w : World, (binOp .eql 38 (.slice none 0 0) (.slice none 0 0)).run Ybgv.prog w = .ok (.bool true) w := fun _ => rfl
    go_enter Ybgv.func58, Ybgv.ntmps58
    go_wp2
    go_ret
    exact ⟨_, rfl, ⟨[], World.ownsRow_nil _ _ _ _, by simp⟩, Below.refl _ _⟩
  | some ad =>
    clear N1 N2 ha han has
    have he : ∀ w : World, (binOp .eql 38 (.slice (some ad) n cap) (.slice none 0 0)).run Ybgv.prog w = .ok (.bool false) w := fun _ => rfl
    go_enter Ybgv.func58, Ybgv.ntmps58
    go_wp2_with (at_builtin; refine wpList_append_all _ rfl (.tmp 5) (.tmp 6) 38 rfl w.heap.size 42 i0 (.agg #[.int .i64 0, .int .i64 0, .int .i64 0, .int .i64 0]) 4 32 Ybgv.underlying38 hi hz0 hz1 hz2 rfl (by decide) (.slice (some ⟨w.heap.size, 0, none⟩) 0 0) 0 [] rfl (World.ownsRow_lit w #[] 0 (Nat.le_refl _) (by unfold maxLen; omega) rfl) (some ad) n cap xs rfl HX.out HN.out (owns_src HE.out ((Below.refl _ _).alloc (Nat.le_refl _) _)) HO.out (by unfold maxLen; omega) (by omega) (by simp) ?_)
    intro v5 w5 h5 g5
    have HF5 := hide h5
    have HB5 := hide (Below.grown ((Below.refl w.heap.size w).alloc (Nat.le_refl _) _) g5 (by simp) (by intro q hq; simp [Value.ownBlock] at hq; omega))
    clear h5 g5
    go_wp2
    go_ret
    exact ⟨_, rfl, ⟨xs, HF5.out, HE2.out⟩, HB5.out⟩

set_option maxHeartbeats 1000000 in
theorem equal59_any {w : World} {b1 b2 : Nat} {v1 v2 : Value} {n : Nat} {K V P X : Nat → Int} (N1 : Nodes w b1 v1 n K V P X) (N2 : Nodes w b2 v2 n K V P X) (hn : n ≤ 100000) :
    Calls Ybgv.prog 59 #[v1, v2] w fun e w' => e = .returned (.bool true) ∧ Below w.heap.size w w' := by
  obtain ⟨a1, cap1, r1, rfl, ha1, _, _⟩ := N1.form
  obtain ⟨a2, cap2, r2, rfl, ha2, _, _⟩ := N2.form
  have H1 := hide N1
  have H2 := hide N2
  have HA1 := hide ha1
  have HA2 := hide ha2
  clear N1 N2 ha1 ha2
  go_enter Ybgv.func59, Ybgv.ntmps59
  go_wp2
  go_loopw [13] (fun i wr => ∃ k : Nat, k ≤ n ∧ i = .int .i64 k ∧ Below w.heap.size w wr) (fun i _ => n - (intOf i).toNat)
  case atStart => exact ⟨0, Nat.zero_le _, rfl, Below.refl _ _⟩
  case round =>
    obtain ⟨k, hk, rfl, b⟩ := hrel
    by_cases hlt : k < n
    · have hlt' : (k : Int) < (n : Int) := by omega
      obtain rfl := HA1.out (by omega)
      obtain rfl := HA2.out (by omega)
      obtain ⟨p1, p2, p3, p4⟩ := (H1.out.heap (fun q hq => b.block q (H1.out.lt q hq).2)).cells hlt
      obtain ⟨q1, q2, q3, q4⟩ := (H2.out.heap (fun q hq => b.block q (H2.out.lt q hq).2)).cells hlt
      have HB := hide b
      clear b
      go_wp2
      go_quiet (fail)
      go_wp2
      go_roundw
      case rel => exact ⟨k + 1, by omega, by go_num, HB.out.trans ⟨rfl, rfl, rfl, Nat.le_refl _, fun _ _ => rfl⟩⟩
      case measure => simp [intOf]; omega
    · have hlt' : ¬ ((k : Int) < (n : Int)) := by omega
      have HB := hide b
      clear b
      go_wp2
      go_ret
      exact ⟨rfl, HB.out⟩

end Go.Proofs.Ymwhbg
