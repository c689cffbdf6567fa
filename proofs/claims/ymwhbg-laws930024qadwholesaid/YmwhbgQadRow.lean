/-
  The law QAD: its row.
-/
import Derived.Test.YmwhbgQad
import Derived.Test.YmwhbgRow
namespace Go.Proofs.Ymwhbg
open Go.ChangeShapes Go.WideShapes Go.ChangeAt Go.RowKit
set_option linter.unusedVariables false
set_option linter.unusedSimpArgs false

set_option maxRecDepth 100000 in
theorem qad_lifted (os : Os) (started : os.Started) (H : Type) (enc : TypeId × Value → H) :
    ReturnsInHanded {} Ybgv.checked os 9 .any (Rows.lawS930024QADWholeSpec.pre6 enc Ybgv.prog Ybgv.f9 Rows.lawS930024QADWholeRow.domain false) (Rows.lawS930024QADWholeSpec.post enc Ybgv.prog Ybgv.f9 false true false false) := by
  refine returnsInHanded_of_change (C := Ybgv.checked) Ybgv.own started (by kernel_rfl) Ybgv.func9
    (ChangeSpec.witness6 (enc := enc) (C := Ybgv.checked) false ⟨#[], #[.int .u8 0, .slice none 0 0, .int .i64 0, .int .i64 0], []⟩ 8 (by kernel_rfl) (by kernel_rfl) (by kernel_rfl) (by kernel_rfl)) ?_
  intro W base args ds gs before hval0 hW hcnd _
  have hval : ∀ (j : Nat) t v, Ybgv.f9.params[j]? = some t → args[j]? = some v → Value.okWide Ybgv.prog W .any base t v := hval0
  have hW' := hW
  obtain ⟨p, q, hA0, hV, rfl, hfz, hnd⟩ := hW
  have hA : DataW.TrodAll enc Ybgv.prog W 0 (fun _ => true) true Ybgv.f9.params.toList args.toList ds p := hA0
  rw [Ybgv.params9] at hA hval
  obtain ⟨v0, vs0, d0, ds0, p0, q0, hargs, rfl, rfl, h0, r0⟩ := trodAll_cons hA
  obtain ⟨v1, vs1, d1, ds1, p1, q1, rfl, rfl, rfl, h1, r1⟩ := trodAll_cons r0
  obtain ⟨v2, vs2, d2, ds2, p2, q2, rfl, rfl, rfl, h2, r2⟩ := trodAll_cons r1
  obtain ⟨v3, vs3, d3, ds3, p3, q3, rfl, rfl, rfl, h3, r3⟩ := trodAll_cons r2
  obtain ⟨rfl, rfl, rfl⟩ := trodAll_nil r3
  obtain rfl : args = #[v0, v1, v2, v3] := by cases args; simp_all
  obtain ⟨rfl, rfl⟩ := trodVars_none hV
  obtain ⟨a0, rfl, rfl, rfl, w0⟩ := open_int Ybgv.underlying5 (hval 0 5 v0 rfl rfl) h0
  obtain ⟨a1, len1, cap1, rfl⟩ := okWide_slice Ybgv.underlying78 (hval 1 78 v1 rfl rfl)
  have k1 := h1
  have lt1 : ∀ x ∈ p1, x.block < W.heap.size := by obtain ⟨m, hm⟩ := k1; exact DataW.trod_lt m _ _ _ hm
  obtain ⟨g10, g11, g12, ho1, hwf1⟩ := open_ops3 (x := (d1, p1)) Ybgv.underlying78 Ybgv.underlying80 (by kernel_rfl) rfl rfl rfl rfl rfl rfl Ybgv.underlying5 Ybgv.underlying3 Ybgv.underlying3 (by kernel_rfl) (by kernel_rfl) (by kernel_rfl) h1
  obtain ⟨a2, rfl, rfl, rfl, w2⟩ := open_int Ybgv.underlying3 (hval 2 3 v2 rfl rfl) h2
  obtain ⟨a3, rfl, rfl, rfl, w3⟩ := open_int Ybgv.underlying3 (hval 3 3 v3 rfl rfl) h3
  clear hA0 hval0
  refine (qad_any a0 a2 a3 a1 len1 cap1 g10 g11 g12 W ho1 (wf_u8 w0) (fun k hk => wf_u8 (hwf1 k hk).1)).mono fun e W' ⟨he, bel⟩ => ?_
  subst he
  exact ⟨_, rfl, _, _, _, [], _, [], hW', trodAll_mk1 (shut_bool Ybgv.underlying4 _), (trodAll_cons_mk (shut_int Ybgv.underlying5 w0) (trodAll_cons_mk (Below.trod Ybgv.laidOut (by kernel_rfl) (of_decide_eq_true (by kernel_rfl)) k1 bel lt1) (trodAll_cons_mk (shut_int Ybgv.underlying3 w2) (trodAll_cons_mk (shut_int Ybgv.underlying3 w3) trodAll_mk0)))), rfl, bel.frame _, fun h => by cases h⟩

theorem qad_proved : Rows.LawS930024QADWholeSaid :=
  OpenClaim.holds_of_wide 9 Ybgv.f9 rfl rfl rfl rfl rfl rfl rfl ⟨rfl, rfl, rfl, rfl, rfl⟩ rfl rfl rfl rfl rfl (by kernel_rfl) Ybgv.func9 (by kernel_rfl)
    (of_decide_eq_true (by kernel_rfl)) (by unfold Func.isWrapper; first | (rw [if_pos (by decide +kernel)]; kernel_rfl) | (rw [if_neg (by decide +kernel)]; exact ⟨rfl, rfl⟩))
    (fun os started H enc _ => qad_lifted os started H enc)
#print axioms qad_proved

end Go.Proofs.Ymwhbg
