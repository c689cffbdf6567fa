/-
  What a law's row wants of its arguments: a slice of structs of three integers, opened.
-/
import Derived.Test.YmwhbgRows
import Derived.Test.YmwhbgTwo
import Derived.ProofKit
import Derived.OpenShut
import Derived.ShutString
import Derived.ChangeOld
import Derived.Below
import Derived.Deep.Slices
namespace Go.Proofs.Ymwhbg
open Go.ChangeShapes Go.WideShapes Go.ChangeAt Go.RowKit Go.Deep
set_option linter.unusedVariables false
set_option linter.unusedSimpArgs false

theorem Ybgv.own : ownKnob Ybgv.prog.godebug = none := by kernel_rfl
theorem Ybgv.laidOut : laidOutB Ybgv.prog = true := by kernel_rfl

theorem list_one {l : List Value} {j : Nat} {v : Value} (h : (l.drop j).take 1 = [v]) : l[j]? = some v := by
  have := congrArg (fun l => l[0]?) h
  simpa using this

/-- A slice of structs of three integers that came in, opened. -/
theorem open_ops3 {H : Type} {enc : TypeId × Value → H} {W : World} {t e : TypeId} {fs : Array Field} {f0 f1 f2 : Field} {k0 k1 k2 : IntKind} {spare : Nat → Bool} {held : Bool} {a : Option Addr} {len cap : Nat} {x : DataW H × List MemPlace}
    (ht : Ybgv.prog.underlying t = some (.slice e)) (he : Ybgv.prog.underlying e = some (.struct fs)) (hc : Ybgv.prog.cellsOf e = 3)
    (h0 : fs[0]? = some f0) (h1 : fs[1]? = some f1) (h2 : fs[2]? = some f2) (o0 : f0.offset = 0) (o1 : f1.offset = 1) (o2 : f2.offset = 2)
    (t0 : Ybgv.prog.underlying f0.type = some (.int k0)) (t1 : Ybgv.prog.underlying f1.type = some (.int k1)) (t2 : Ybgv.prog.underlying f2.type = some (.int k2))
    (q0 : Ybgv.prog.cellsOf f0.type = 1) (q1 : Ybgv.prog.cellsOf f1.type = 1) (q2 : Ybgv.prog.cellsOf f2.type = 1)
    (h : DataW.Trod enc Ybgv.prog W 0 spare held t (.slice a len cap) x.1 x.2) :
    ∃ g0 g1 g2 : Nat → Int, Ops3 k0 k1 k2 W a len g0 g1 g2 ∧ ∀ k, k < len → (Lit.int k0 (g0 k)).wf = true ∧ (Lit.int k1 (g1 k)).wf = true ∧ (Lit.int k2 (g2 k)).wf = true := by
  obtain ⟨fuel, hf⟩ := h
  rcases open_slice ht hf with ⟨hcs, _⟩ | ⟨ad, len', cap', m, n, D, Pl, hcs, hb, hl, hm, hmm, hx, hel⟩
  · simp [Value.cells] at hcs
    obtain ⟨rfl, rfl, rfl⟩ := hcs
    exact ⟨fun _ => 0, fun _ => 0, fun _ => 0, fun k hk => by omega, fun k hk => by omega⟩
  · simp [Value.cells] at hcs
    obtain ⟨rfl, rfl, rfl⟩ := hcs
    have hlm : len ≤ m := by rw [hmm]; split <;> omega
    rw [hc] at hel
    have hs0 : 0 < len → ad.spot = none := by
      intro hp
      obtain ⟨cs', c1, c2⟩ := hel 0 (by omega)
      obtain ⟨_, c3, c4⟩ := World.cells?_some c1
      have r := c4 0 (by omega)
      have hr : cs'[0]? = some (cs'[0]'(by omega)) := by simp
      rw [hr] at r
      have := World.cell?_spot r
      simpa [Addr.add] using this
    have one : ∀ i, i < len → ∃ z : Int × Int × Int, (∃ b off, ad = ⟨b, off, none⟩ ∧ b < W.heap.size ∧ W.cell? ⟨b, off + i * 3, none⟩ = some (.int k0 z.1) ∧ W.cell? ⟨b, off + i * 3 + 1, none⟩ = some (.int k1 z.2.1) ∧ W.cell? ⟨b, off + i * 3 + 2, none⟩ = some (.int k2 z.2.2)) ∧
        (Lit.int k0 z.1).wf = true ∧ (Lit.int k1 z.2.1).wf = true ∧ (Lit.int k2 z.2.2).wf = true := by
      intro i hi
      obtain ⟨cs', c1, c2⟩ := hel i (by omega)
      obtain ⟨_, c3, c4⟩ := World.cells?_some c1
      obtain ⟨xs, n', rfl, _, _, hxl, hfld⟩ := DataW.trod_struct he c2
      have sz : 3 ≤ fs.size := by
        have := (Array.getElem?_eq_some_iff.1 h2).1; omega
      have d0 := hfld 0 f0 h0
      have d1 := hfld 1 f1 h1
      have d2 := hfld 2 f2 h2
      rw [q0, o0, List.getElem?_eq_getElem (by omega)] at d0
      rw [q1, o1, List.getElem?_eq_getElem (by omega)] at d1
      rw [q2, o2, List.getElem?_eq_getElem (by omega)] at d2
      obtain ⟨z0, e0, _, w0⟩ := DataW.trod_int t0 d0
      obtain ⟨z1, e1, _, w1⟩ := DataW.trod_int t1 d1
      obtain ⟨z2, e2, _, w2⟩ := DataW.trod_int t2 d2
      have r0 := (c4 0 (by omega)).trans (list_one e0)
      have r1 := (c4 1 (by omega)).trans (list_one e1)
      have r2 := (c4 2 (by omega)).trans (list_one e2)
      rw [add_add] at r0 r1 r2
      obtain ⟨b, off, spot⟩ := ad
      have hspot : spot = none := hs0 (by omega)
      subst hspot
      have hbl := World.block_lt_of_cell? W _ r1
      rw [add_plain] at r0 r1 r2
      refine ⟨(z0, z1, z2), ⟨b, off, rfl, ?_, ?_, ?_, ?_⟩, w0, w1, w2⟩
      · simpa [Addr.add] using hbl
      · exact r0
      · exact r1
      · exact r2
    obtain ⟨f, hfn⟩ := choose_lt one
    refine ⟨fun i => (f i).1, fun i => (f i).2.1, fun i => (f i).2.2, fun k hk => ?_, fun k hk => (hfn k hk).2⟩
    obtain ⟨b, off, e1, e2⟩ := (hfn k hk).1
    exact ⟨b, off, by rw [e1], e2⟩

theorem wf_u8 {x : Int} (h : (Lit.int .u8 x).wf = true) : 0 ≤ x ∧ x ≤ 255 := by
  simp [Lit.wf, IntKind.min, IntKind.max, IntKind.signed, IntKind.bits] at h
  exact ⟨by omega, by omega⟩
theorem wf_i64 {x : Int} (h : (Lit.int .i64 x).wf = true) : -9223372036854775808 ≤ x ∧ x ≤ 9223372036854775807 := by
  simp [Lit.wf, IntKind.min, IntKind.max, IntKind.signed, IntKind.bits] at h
  exact ⟨by omega, by omega⟩

end Go.Proofs.Ymwhbg
