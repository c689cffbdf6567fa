import Derived.Test.YmwhbgUnlink
namespace Go.Proofs.Ymwhbg
open Go.RowKit
set_option linter.unusedVariables false
set_option linter.unusedSimpArgs false

set_option maxHeartbeats 400000 in
theorem push_any {w : World} {base cb : Nat} {nv : Value} {n : Nat} {K V P X : Nat → Int} {h t f sz cp : Int} (i : Nat)
    (c : CMem w base cb nv n K V P X h t f sz cp) (hn : n ≤ 100000) (hi : i < n) (hh : Slot n h) (hhi : h ≠ i) (s1 : 0 ≤ sz) (s2 : sz ≤ 100000) :
    Calls Ybgv.prog 49 #[.pointer (some ⟨cb, 0, none⟩), .int .i64 i] w fun e w' => e = .returned (.tuple #[]) ∧
      CMem w' base cb nv n K V (updI (upd P i (-1)) h i) (upd X i h) i (orI h i t) f (sz + 1) cp ∧ Fr (own cb nv) w w' := by
  obtain ⟨a, cap, nb, rfl, ha, _, _⟩ := c.row.form
  obtain rfl := ha (by omega)
  have hne := c.ne
  have hne' : cb ≠ nb := fun e => hne e.symm
  have c0 := c.c0
  have c1 := c.c1
  have c2 := c.c2
  have c4 := c.c4
  have fz := c.fz
  have fn := c.row.frozen
  obtain ⟨_, _, gp, gx⟩ := c.row.cells hi
  have C : Hid (CMem w base cb (.slice (some ⟨nb, 0, none⟩) n cap) n K V P X h t f sz cp) := c
  clear c ha
  have hin : (i : Int) < (n : Int) := by omega
  rcases hh with rfl | ⟨p, hpn, rfl⟩
  · rw [updI_neg, orI_neg]
    go_enter Ybgv.func49, Ybgv.ntmps49
    go_wp2
    go_region
    go_wp2
    go_end0
    exact ⟨rfl, (((((C.out.setP _ hi _).setX _ hi _).set2 _).set1 _).set4 _).drew, ((((((Fr.refl _ _).setNb _ _).setNb _ _).setCb _ _).setCb _ _).setCb _ _).drew⟩
  · rw [updI_nat, orI_nat]
    have hpn' : (p : Int) < (n : Int) := by omega
    have hpi : p ≠ i := by omega
    clear hhi
    obtain ⟨_, _, gp', _⟩ := C.out.row.cells hpn
    go_enter Ybgv.func49, Ybgv.ntmps49
    go_wp2
    go_region
    go_wp2
    go_region
    go_wp2
    go_end0
    exact ⟨rfl, (((((C.out.setP _ hi _).setX _ hi _).setP _ hpn _).set1 _).set4 _).drew.drew, ((((((Fr.refl _ _).setNb _ _).setNb _ _).setNb _ _).setCb _ _).setCb _ _).drew.drew⟩

end Go.Proofs.Ymwhbg
