/-
  The law QAG: its row.
-/
import Derived.Test.YmwhbgQag
import Derived.Test.YmwhbgRow
namespace Go.Proofs.Ymwhbg
open Go.ChangeShapes Go.WideShapes Go.ChangeAt Go.RowKit
set_option linter.unusedVariables false
set_option linter.unusedSimpArgs false

set_option maxRecDepth 100000 in
theorem qag_lifted (os : Os) (started : os.Started) (H : Type) (enc : TypeId × Value → H) :
    ReturnsInHanded {} Ybgv.checked os 8 .any (Rows.lawS930024QAGWholeSpec.pre6 enc Ybgv.prog Ybgv.f8 Rows.lawS930024QAGWholeRow.domain false) (Rows.lawS930024QAGWholeSpec.post enc Ybgv.prog Ybgv.f8 false true false false) := by
  refine returnsInHanded_of_change (C := Ybgv.checked) Ybgv.own started (by kernel_rfl) Ybgv.func8
    (ChangeSpec.witness6 (enc := enc) (C := Ybgv.checked) false ⟨#[], #[.int .i64 0, .int .i64 0, .slice none 0 0, .slice none 0 0, .int .u8 0], []⟩ 8 (by kernel_rfl) (by kernel_rfl) (by kernel_rfl) (by kernel_rfl)) ?_
  intro W base args ds gs before hval0 hW hcnd _
  have hval : ∀ (j : Nat) t v, Ybgv.f8.params[j]? = some t → args[j]? = some v → Value.okWide Ybgv.prog W .any base t v := hval0
  have hW' := hW
  obtain ⟨p, q, hA0, hV, rfl, hfz, hnd⟩ := hW
  have hA : DataW.TrodAll enc Ybgv.prog W 0 (fun _ => true) true Ybgv.f8.params.toList args.toList ds p := hA0
  rw [Ybgv.params8] at hA hval
  obtain ⟨v0, vs0, d0, ds0, p0, q0, hargs, rfl, rfl, h0, r0⟩ := trodAll_cons hA
  obtain ⟨v1, vs1, d1, ds1, p1, q1, rfl, rfl, rfl, h1, r1⟩ := trodAll_cons r0
  obtain ⟨v2, vs2, d2, ds2, p2, q2, rfl, rfl, rfl, h2, r2⟩ := trodAll_cons r1
  obtain ⟨v3, vs3, d3, ds3, p3, q3, rfl, rfl, rfl, h3, r3⟩ := trodAll_cons r2
  obtain ⟨v4, vs4, d4, ds4, p4, q4, rfl, rfl, rfl, h4, r4⟩ := trodAll_cons r3
  obtain ⟨rfl, rfl, rfl⟩ := trodAll_nil r4
  obtain rfl : args = #[v0, v1, v2, v3, v4] := by cases args; simp_all
  obtain ⟨rfl, rfl⟩ := trodVars_none hV
  obtain ⟨a0, rfl, rfl, rfl, w0⟩ := open_int Ybgv.underlying3 (hval 0 3 v0 rfl rfl) h0
  obtain ⟨a1, rfl, rfl, rfl, w1⟩ := open_int Ybgv.underlying3 (hval 1 3 v1 rfl rfl) h1
  obtain ⟨a2, len2, cap2, rfl⟩ := okWide_slice Ybgv.underlying65 (hval 2 65 v2 rfl rfl)
  have k2 := h2
  have lt2 : ∀ x ∈ p2, x.block < W.heap.size := by obtain ⟨m, hm⟩ := k2; exact DataW.trod_lt m _ _ _ hm
  obtain ⟨g20, g21, g22, ho2, hwf2⟩ := open_ops3 (x := (d2, p2)) Ybgv.underlying65 Ybgv.underlying91 (by kernel_rfl) rfl rfl rfl rfl rfl rfl Ybgv.underlying5 Ybgv.underlying5 Ybgv.underlying5 (by kernel_rfl) (by kernel_rfl) (by kernel_rfl) h2
  obtain ⟨a3, len3, cap3, rfl⟩ := okWide_slice Ybgv.underlying65 (hval 3 65 v3 rfl rfl)
  have k3 := h3
  have lt3 : ∀ x ∈ p3, x.block < W.heap.size := by obtain ⟨m, hm⟩ := k3; exact DataW.trod_lt m _ _ _ hm
  obtain ⟨g30, g31, g32, ho3, hwf3⟩ := open_ops3 (x := (d3, p3)) Ybgv.underlying65 Ybgv.underlying91 (by kernel_rfl) rfl rfl rfl rfl rfl rfl Ybgv.underlying5 Ybgv.underlying5 Ybgv.underlying5 (by kernel_rfl) (by kernel_rfl) (by kernel_rfl) h3
  obtain ⟨a4, rfl, rfl, rfl, w4⟩ := open_int Ybgv.underlying5 (hval 4 5 v4 rfl rfl) h4
  clear hA0 hval0
  refine (qag_any a0 a1 a4 a2 a3 len2 cap2 len3 cap3 g20 g21 g22 g30 g31 g32 W ho2 ho3 (wf_u8 w4) (fun k hk => ⟨wf_u8 (hwf2 k hk).1, wf_u8 (hwf2 k hk).2.1, wf_u8 (hwf2 k hk).2.2⟩) (fun k hk => ⟨wf_u8 (hwf3 k hk).1, wf_u8 (hwf3 k hk).2.1, wf_u8 (hwf3 k hk).2.2⟩)).mono fun e W' ⟨he, bel⟩ => ?_
  subst he
  exact ⟨_, rfl, _, _, _, [], _, [], hW', trodAll_mk1 (shut_bool Ybgv.underlying4 _), (trodAll_cons_mk (shut_int Ybgv.underlying3 w0) (trodAll_cons_mk (shut_int Ybgv.underlying3 w1) (trodAll_cons_mk (Below.trod Ybgv.laidOut (by kernel_rfl) (of_decide_eq_true (by kernel_rfl)) k2 bel lt2) (trodAll_cons_mk (Below.trod Ybgv.laidOut (by kernel_rfl) (of_decide_eq_true (by kernel_rfl)) k3 bel lt3) (trodAll_cons_mk (shut_int Ybgv.underlying5 w4) trodAll_mk0))))), rfl, bel.frame _, fun h => by cases h⟩

theorem qag_proved : Rows.LawS930024QAGWholeSaid :=
  OpenClaim.holds_of_wide 8 Ybgv.f8 rfl rfl rfl rfl rfl rfl rfl ⟨rfl, rfl, rfl, rfl, rfl⟩ rfl rfl rfl rfl rfl (by kernel_rfl) Ybgv.func8 (by kernel_rfl)
    (of_decide_eq_true (by kernel_rfl)) (by unfold Func.isWrapper; first | (rw [if_pos (by decide +kernel)]; kernel_rfl) | (rw [if_neg (by decide +kernel)]; exact ⟨rfl, rfl⟩))
    (fun os started H enc _ => qag_lifted os started H enc)
#print axioms qag_proved

end Go.Proofs.Ymwhbg
