/-
  The law QAE: its row.
-/
import Derived.Test.YmwhbgQae
import Derived.Test.YmwhbgRow
namespace Go.Proofs.Ymwhbg
open Go.ChangeShapes Go.WideShapes Go.ChangeAt Go.RowKit
set_option linter.unusedVariables false
set_option linter.unusedSimpArgs false

set_option maxRecDepth 100000 in
theorem qae_lifted (os : Os) (started : os.Started) (H : Type) (enc : TypeId × Value → H) :
    ReturnsInHanded {} Ybgv.checked os 5 .any (Rows.lawS930024QAEWholeSpec.pre6 enc Ybgv.prog Ybgv.f5 Rows.lawS930024QAEWholeRow.domain false) (Rows.lawS930024QAEWholeSpec.post enc Ybgv.prog Ybgv.f5 false true false false) := by
  refine returnsInHanded_of_change (C := Ybgv.checked) Ybgv.own started (by kernel_rfl) Ybgv.func5
    (ChangeSpec.witness6 (enc := enc) (C := Ybgv.checked) false ⟨#[], #[.int .u8 0, .slice none 0 0], []⟩ 8 (by kernel_rfl) (by kernel_rfl) (by kernel_rfl) (by kernel_rfl)) ?_
  intro W base args ds gs before hval0 hW hcnd _
  have hval : ∀ (j : Nat) t v, Ybgv.f5.params[j]? = some t → args[j]? = some v → Value.okWide Ybgv.prog W .any base t v := hval0
  have hW' := hW
  obtain ⟨p, q, hA0, hV, rfl, hfz, hnd⟩ := hW
  have hA : DataW.TrodAll enc Ybgv.prog W 0 (fun _ => true) true Ybgv.f5.params.toList args.toList ds p := hA0
  rw [Ybgv.params5] at hA hval
  obtain ⟨v0, vs0, d0, ds0, p0, q0, hargs, rfl, rfl, h0, r0⟩ := trodAll_cons hA
  obtain ⟨v1, vs1, d1, ds1, p1, q1, rfl, rfl, rfl, h1, r1⟩ := trodAll_cons r0
  obtain ⟨rfl, rfl, rfl⟩ := trodAll_nil r1
  obtain rfl : args = #[v0, v1] := by cases args; simp_all
  obtain ⟨rfl, rfl⟩ := trodVars_none hV
  obtain ⟨a0, rfl, rfl, rfl, w0⟩ := open_int Ybgv.underlying5 (hval 0 5 v0 rfl rfl) h0
  obtain ⟨a1, len1, cap1, rfl⟩ := okWide_slice Ybgv.underlying50 (hval 1 50 v1 rfl rfl)
  have k1 := h1
  have lt1 : ∀ x ∈ p1, x.block < W.heap.size := by obtain ⟨m, hm⟩ := k1; exact DataW.trod_lt m _ _ _ hm
  obtain ⟨g10, g11, g12, ho1, hwf1⟩ := open_ops3 (x := (d1, p1)) Ybgv.underlying50 Ybgv.underlying51 (by kernel_rfl) rfl rfl rfl rfl rfl rfl Ybgv.underlying5 Ybgv.underlying5 Ybgv.underlying3 (by kernel_rfl) (by kernel_rfl) (by kernel_rfl) h1
  clear hA0 hval0
  refine (qae_any a0 a1 len1 cap1 g10 g11 g12 W ho1 (wf_u8 w0) (fun k hk => ⟨wf_u8 (hwf1 k hk).1, wf_u8 (hwf1 k hk).2.1⟩)).mono fun e W' ⟨he, bel⟩ => ?_
  subst he
  exact ⟨_, rfl, _, _, _, [], _, [], hW', trodAll_mk1 (shut_bool Ybgv.underlying4 _), (trodAll_cons_mk (shut_int Ybgv.underlying5 w0) (trodAll_cons_mk (Below.trod Ybgv.laidOut (by kernel_rfl) (of_decide_eq_true (by kernel_rfl)) k1 bel lt1) trodAll_mk0)), rfl, bel.frame _, fun h => by cases h⟩

theorem qae_proved : Rows.LawS930024QAEWholeSaid :=
  OpenClaim.holds_of_wide 5 Ybgv.f5 rfl rfl rfl rfl rfl rfl rfl ⟨rfl, rfl, rfl, rfl, rfl⟩ rfl rfl rfl rfl rfl (by kernel_rfl) Ybgv.func5 (by kernel_rfl)
    (of_decide_eq_true (by kernel_rfl)) (by unfold Func.isWrapper; first | (rw [if_pos (by decide +kernel)]; kernel_rfl) | (rw [if_neg (by decide +kernel)]; exact ⟨rfl, rfl⟩))
    (fun os started H enc _ => qae_lifted os started H enc)
#print axioms qae_proved

end Go.Proofs.Ymwhbg
