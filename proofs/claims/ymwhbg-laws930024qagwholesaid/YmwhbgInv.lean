/-
  The cache stands for a list: contracts of New, Len, Peek, Get.
-/
import Derived.Test.YmwhbgDrop
import Derived.Test.YmwhbgRep
import Derived.Test.YmwhbgInfo
namespace Go.Proofs.Ymwhbg
open Go.RowKit
set_option linter.unusedVariables false
set_option linter.unusedSimpArgs false

/-- The cache at block cb stands for the list m. -/
def Inv (w : World) (B cb : Nat) (nv : Value) (n : Nat) (f cp : Int) (m : List (Int × Int)) : Prop :=
  ∃ (K V P X : Nat → Int) (L F : List Nat), CMem w B cb nv n K V P X (hd L) (lst L) f L.length cp ∧ Rep n P X f L F ∧ m = ents K V L ∧ distinct m ∧ (m.length : Int) ≤ cp

section
variable {w w' : World} {B cb : Nat} {nv : Value} {n : Nat} {f cp : Int} {m : List (Int × Int)}
theorem Inv.heap (I : Inv w B cb nv n f cp m) (hk : ∀ k, own cb nv k → w'.heap[k]? = w.heap[k]?) : Inv w' B cb nv n f cp m := by
  obtain ⟨K, V, P, X, L, F, c, r⟩ := I
  exact ⟨K, V, P, X, L, F, c.heap hk, r⟩
theorem Inv.own_lt (I : Inv w B cb nv n f cp m) : ∀ k, own cb nv k → B ≤ k ∧ k < w.heap.size := by
  obtain ⟨K, V, P, X, L, F, c, r⟩ := I
  exact c.own_lt
theorem Inv.below (I : Inv w B cb nv n f cp m) (g : Below w.heap.size w w') : Inv w' B cb nv n f cp m :=
  I.heap (fun k hk => g.block k (I.own_lt k hk).2)
theorem Inv.fr {S : Nat → Prop} (I : Inv w B cb nv n f cp m) (g : Fr S w w') (hs : ∀ k, own cb nv k → ¬ S k) : Inv w' B cb nv n f cp m :=
  I.heap (fun k hk => g.block k (I.own_lt k hk).2 (hs k hk))
theorem Inv.alloc (I : Inv w B cb nv n f cp m) (o : Obj) : Inv (w.alloc o) B cb nv n f cp m := I.heap (fun k hk => Below.heap_alloc _ _ _ (I.own_lt k hk).2)
theorem Inv.drew (I : Inv w B cb nv n f cp m) : Inv w.drew B cb nv n f cp m := I.heap (fun _ _ => rfl)
theorem Inv.len_le (I : Inv w B cb nv n f cp m) : (m.length : Int) ≤ cp := by
  obtain ⟨K, V, P, X, L, F, c, r, e, d, l⟩ := I
  exact l
theorem Inv.dis (I : Inv w B cb nv n f cp m) : distinct m := by
  obtain ⟨K, V, P, X, L, F, c, r, e, d, l⟩ := I
  exact d
theorem Inv.len_n (I : Inv w B cb nv n f cp m) : m.length ≤ n := by
  obtain ⟨K, V, P, X, L, F, c, r, e, d, l⟩ := I
  rw [e, ents_length]; have := r.len; omega
end

theorem ents_key {K V : Nat → Int} {L : List Nat} {k : Int} (h : ∀ x ∈ L, K x ≠ k) : ∀ x ∈ ents K V L, x.1 ≠ k := by
  intro x hx
  obtain ⟨s, hs, rfl⟩ := List.mem_map.1 hx
  exact h s hs

theorem inv_new (w : World) (B : Nat) (hB : B ≤ w.heap.size) (cp : Int) (h : 0 ≤ cp) :
    Inv (w.alloc (.cells #[.slice none 0 0, .int .i64 (-1), .int .i64 (-1), .int .i64 (-1), .int .i64 0, .int .i64 cp] 40)) B w.heap.size (.slice none 0 0) 0 (-1) cp [] := by
  refine ⟨fun _ => 0, fun _ => 0, fun _ => 0, fun _ => 0, [], [], ⟨?_, ?_, ?_, ?_, ?_, ?_, ?_, ⟨[], World.ownsRow_nil _ _ _ _, by simp⟩, by simp [Value.ownBlock], hB⟩,
    ⟨fun A s B h => by simp at h, ⟨rfl, fun A s B h => by simp at h⟩, by simp, by simp, rfl⟩, rfl, by simp [distinct], by simpa using h⟩
  · simp
  · simp [hd]
  · simp [lst, hd]
  · simp
  · simp
  · simp
  · simp

set_option maxHeartbeats 400000 in
theorem new_any (cap : Int) (w : World) (B : Nat) (hB : B ≤ w.heap.size) :
    Calls Ybgv.prog 10 #[.int .i64 cap] w fun e w' => e = .returned (.pointer (some ⟨w.heap.size, 0, none⟩)) ∧
      Inv w' B w.heap.size (.slice none 0 0) 0 (-1) (max cap 0) [] ∧ Below w.heap.size w w' := by
  by_cases h : cap < 0
  · have e : max cap 0 = 0 := by omega
    rw [e]
    clear e
    go_enter Ybgv.func10, Ybgv.ntmps10
    go_wp2
    go_ret
    exact ⟨rfl, inv_new w B hB 0 (by omega), (Below.refl _ _).alloc (Nat.le_refl _) _⟩
  · have e : max cap 0 = cap := by omega
    rw [e]
    clear e
    go_enter Ybgv.func10, Ybgv.ntmps10
    go_wp2
    go_ret
    exact ⟨rfl, inv_new w B hB cap (by omega), (Below.refl _ _).alloc (Nat.le_refl _) _⟩

set_option maxHeartbeats 400000 in
theorem len_any {w : World} {B cb : Nat} {nv : Value} {n : Nat} {f cp : Int} {m : List (Int × Int)} (I : Inv w B cb nv n f cp m) :
    Calls Ybgv.prog 20 #[.pointer (some ⟨cb, 0, none⟩)] w fun e w' => e = .returned (.int .i64 m.length) ∧ w' = w := by
  obtain ⟨K, V, P, X, L, F, c, r, e, d, l⟩ := I
  have c4 := c.c4
  rw [e, ents_length]
  clear c r e d l
  go_enter Ybgv.func20, Ybgv.ntmps20
  go_wp2
  go_ret
  exact ⟨rfl, rfl⟩

theorem Rep.ltL {n : Nat} {P X : Nat → Int} {f : Int} {L F : List Nat} (r : Rep n P X f L F) : ∀ s ∈ L, s < n := fun s hs => r.lt s (by simp [hs])
theorem Rep.lenL {n : Nat} {P X : Nat → Int} {f : Int} {L F : List Nat} (r : Rep n P X f L F) : L.length ≤ n := by have := r.len; omega

set_option maxHeartbeats 400000 in
theorem peek_any {w : World} {B cb : Nat} {nv : Value} {n : Nat} {f cp : Int} {m : List (Int × Int)} (key : Int) (I : Inv w B cb nv n f cp m) (hn : n ≤ 100000) :
    Calls Ybgv.prog 18 #[.pointer (some ⟨cb, 0, none⟩), .int .i64 key] w fun e w' => e = .returned (.tuple #[.int .i64 (valOf m key), .bool (hasK m key)]) ∧ w' = w := by
  obtain ⟨K, V, P, X, L, F, c, r, rfl, d, l⟩ := I
  have hfind := find_any key c hn r.ltL r.lenL r.dl
  rcases slot_cases K key L with h | ⟨A, s, B, rfl, h1, h2⟩
  · rw [valOf_none (ents_key h), hasK_none (ents_key h)]
    rw [slotOf_miss h] at hfind
    have H := Hid.out (p := True) trivial
    clear h d l c r
    go_enter Ybgv.func18, Ybgv.ntmps18
    go_wp2_with fail
    refine hfind.mono ?_
    rintro e w' ⟨rfl, rfl⟩
    clear hfind
    go_wp2
    go_ret2
    exact ⟨rfl, rfl⟩
  · have hs : s < n := r.ltL s (by simp)
    rw [slotOf_hit h1 h2] at hfind
    rw [ents_append, ents_cons, valOf_some (ents_key h1) h2, hasK_some h2]
    obtain ⟨a, cap, nb, rfl, ha, _, _⟩ := c.row.form
    obtain rfl := ha (by omega)
    have c0 := c.c0
    obtain ⟨_, gv, _, _⟩ := c.row.cells hs
    have hsn : (s : Int) < (n : Int) := by omega
    have hb : ((s : Int) == -1) = false := beq_eq_false_iff_ne.2 (by omega)
    clear h1 h2 d l c r ha
    go_enter Ybgv.func18, Ybgv.ntmps18
    go_wp2_with fail
    refine hfind.mono ?_
    rintro e w' ⟨rfl, rfl⟩
    clear hfind
    go_wp2
    go_ret2
    exact ⟨rfl, rfl⟩

end Go.Proofs.Ymwhbg
