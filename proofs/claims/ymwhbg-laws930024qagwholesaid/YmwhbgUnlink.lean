import Derived.Test.YmwhbgFind
import Derived.RegionTactic
import Derived.BigRegion
import Derived.ChangeAlike
namespace Go.Proofs.Ymwhbg
open Go.RowKit
set_option linter.unusedVariables false
set_option linter.unusedSimpArgs false

set_option maxHeartbeats 400000 in
theorem unlink_any {w : World} {base cb : Nat} {nv : Value} {n : Nat} {K V P X : Nat → Int} {h t f sz cp : Int} (i : Nat)
    (c : CMem w base cb nv n K V P X h t f sz cp) (hn : n ≤ 100000) (hi : i < n) (hp : Slot n (P i)) (hx : Slot n (X i)) (s1 : 1 ≤ sz) (s2 : sz ≤ 100000) :
    Calls Ybgv.prog 48 #[.pointer (some ⟨cb, 0, none⟩), .int .i64 i] w fun e w' => e = .returned (.tuple #[]) ∧
      CMem w' base cb nv n K V (updI P (X i) (P i)) (updI X (P i) (X i)) (orI (P i) (X i) h) (orI (X i) (P i) t) f (sz - 1) cp ∧ Fr (own cb nv) w w' := by
  obtain ⟨a, cap, nb, rfl, ha, _, _⟩ := c.row.form
  obtain rfl := ha (by omega)
  have hne := c.ne
  have hne' : cb ≠ nb := fun e => hne e.symm
  have c0 := c.c0
  have c1 := c.c1
  have c2 := c.c2
  have c4 := c.c4
  have fz := c.fz
  have fn := c.row.frozen
  obtain ⟨_, _, gp, gx⟩ := c.row.cells hi
  have C : Hid (CMem w base cb (.slice (some ⟨nb, 0, none⟩) n cap) n K V P X h t f sz cp) := c
  clear c ha
  rcases hp with hp | ⟨p, hpn, hp⟩
  · rw [hp] at gp ⊢
    rcases hx with hx | ⟨x, hxn, hx⟩
    · rw [hx] at gx ⊢
      clear hp hx
      rw [updI_neg, updI_neg, orI_neg, orI_neg]
      go_enter Ybgv.func48, Ybgv.ntmps48
      go_wp2
      go_end0
      exact ⟨rfl, ((C.out.set1 _).set2 _).set4 _, (((Fr.refl _ _).setCb _ _).setCb _ _).setCb _ _⟩
    · rw [hx] at gx ⊢
      clear hp hx
      rw [updI_nat, updI_neg, orI_neg, orI_nat]
      obtain ⟨_, _, gp', _⟩ := C.out.row.cells hxn
      go_enter Ybgv.func48, Ybgv.ntmps48
      go_wp2
      go_end0
      exact ⟨rfl, ((C.out.set1 _).setP _ hxn _).set4 _, (((Fr.refl _ _).setCb _ _).setNb _ _).setCb _ _⟩
  · rw [hp] at gp ⊢
    obtain ⟨_, _, _, gx'⟩ := C.out.row.cells hpn
    rcases hx with hx | ⟨x, hxn, hx⟩
    · rw [hx] at gx ⊢
      clear hp hx
      rw [updI_nat, updI_neg, orI_neg, orI_nat]
      go_enter Ybgv.func48, Ybgv.ntmps48
      go_wp2
      go_end0
      exact ⟨rfl, ((C.out.setX _ hpn _).set2 _).set4 _, (((Fr.refl _ _).setNb _ _).setCb _ _).setCb _ _⟩
    · rw [hx] at gx ⊢
      clear hp hx
      rw [updI_nat, updI_nat, orI_nat, orI_nat]
      obtain ⟨_, _, gp', _⟩ := C.out.row.cells hxn
      go_enter Ybgv.func48, Ybgv.ntmps48
      go_wp2
      go_end0
      exact ⟨rfl, ((C.out.setX _ hpn _).setP _ hxn _).set4 _, (((Fr.refl _ _).setNb _ _).setNb _ _).setCb _ _⟩

end Go.Proofs.Ymwhbg
