/-
  The cache and the model's slice side by side: what each call keeps.
-/
import Derived.Test.YmwhbgPut4
import Derived.Test.YmwhbgFront
namespace Go.Proofs.Ymwhbg
open Go.RowKit
set_option linter.unusedVariables false
set_option linter.unusedSimpArgs false

/-- Since the world w0: the cache at cb stands for mc, the slice v holds mm, block ob holds obj; none lies over another; nothing old has turned. -/
def Two (w0 w : World) (cb : Nat) (cp : Int) (N : Nat) (mc : List (Int × Int)) (v : Value) (mm : List (Int × Int)) (ob : Nat) (obj : Obj) : Prop :=
  ∃ nv n f, Inv w w0.heap.size cb nv n f cp mc ∧ n ≤ N ∧ EntB w w0.heap.size v mm ∧ (∀ k, v.ownBlock = some k → ¬ own cb nv k) ∧ Below w0.heap.size w0 w ∧ w.heap[ob]? = some obj ∧ ¬ own cb nv ob

section
variable {w0 w w' : World} {cb : Nat} {cp : Int} {N : Nat} {mc mm mm' : List (Int × Int)} {v v' : Value} {ob : Nat} {obj : Obj}

theorem Two.below (T : Two w0 w cb cp N mc v mm ob obj) : Below w0.heap.size w0 w := by
  obtain ⟨nv, n, f, I, hn, E, hs, b, h1, h2⟩ := T; exact b
theorem Two.ent (T : Two w0 w cb cp N mc v mm ob obj) : EntB w w0.heap.size v mm := by
  obtain ⟨nv, n, f, I, hn, E, hs, b, h1, h2⟩ := T; exact E
theorem Two.loc (T : Two w0 w cb cp N mc v mm ob obj) : w.heap[ob]? = some obj := by
  obtain ⟨nv, n, f, I, hn, E, hs, b, h1, h2⟩ := T; exact h1
theorem Two.len (T : Two w0 w cb cp N mc v mm ob obj) : mc.length ≤ N ∧ (mc.length : Int) ≤ cp := by
  obtain ⟨nv, n, f, I, hn, E, hs, b, h1, h2⟩ := T; exact ⟨Nat.le_trans I.len_n hn, I.len_le⟩
theorem Two.dis (T : Two w0 w cb cp N mc v mm ob obj) : distinct mc := by
  obtain ⟨nv, n, f, I, hn, E, hs, b, h1, h2⟩ := T; exact I.dis
theorem Two.mono (T : Two w0 w cb cp N mc v mm ob obj) {N' : Nat} (h : N ≤ N') : Two w0 w cb cp N' mc v mm ob obj := by
  obtain ⟨nv, n, f, I, hn, E, hs, b, h1, h2⟩ := T; exact ⟨nv, n, f, I, Nat.le_trans hn h, E, hs, b, h1, h2⟩

/-- Behind a function of the model. -/
theorem Two.model (T : Two w0 w cb cp N mc v mm ob obj) (hb : Below w.heap.size w w') (E' : EntB w' w.heap.size v' mm') : Two w0 w' cb cp N mc v' mm' ob obj := by
  obtain ⟨nv, n, f, I, hn, E, hs, b, h1, h2⟩ := T
  have hsz := b.size
  refine ⟨nv, n, f, I.below hb, hn, E'.down hsz, ?_, b.trans (hb.mono hsz), ?_, h2⟩
  · intro k hk ho
    have := (E'.lt k hk).1
    have := (I.own_lt k ho).2
    omega
  · rw [hb.block ob (Array.getElem?_eq_some_iff.1 h1).1]; exact h1
/-- Behind a function of the model that leaves the slice as it was. -/
theorem Two.keep (T : Two w0 w cb cp N mc v mm ob obj) (hb : Below w.heap.size w w') : Two w0 w' cb cp N mc v mm ob obj := by
  obtain ⟨nv, n, f, I, hn, E, hs, b, h1, h2⟩ := T
  have hsz := b.size
  refine ⟨nv, n, f, I.below hb, hn, E.below hb, hs, b.trans (hb.mono hsz), ?_, h2⟩
  rw [hb.block ob (Array.getElem?_eq_some_iff.1 h1).1]; exact h1
theorem Two.alloc (T : Two w0 w cb cp N mc v mm ob obj) (o : Obj) : Two w0 (w.alloc o) cb cp N mc v mm ob obj := T.keep ((Below.refl _ _).alloc (Nat.le_refl _) o)
theorem Two.drew (T : Two w0 w cb cp N mc v mm ob obj) : Two w0 w.drew cb cp N mc v mm ob obj := T.keep (Below.refl _ _).drew
/-- A new local block. -/
theorem Two.newLoc (T : Two w0 w cb cp N mc v mm ob obj) (o : Obj) : Two w0 (w.alloc o) cb cp N mc v mm w.heap.size o := by
  obtain ⟨nv, n, f, I, hn, E, hs, b, h1, h2⟩ := T
  exact ⟨nv, n, f, I.alloc o, hn, E.alloc o, hs, b.alloc b.size o, heap_alloc_new w o, fun ho => by have := (I.own_lt _ ho).2; omega⟩
/-- The slice is cut short. -/
theorem Two.setV (T : Two w0 w cb cp N mc v mm ob obj) (E' : EntB w w0.heap.size v' mm') (hv : v'.ownBlock = v.ownBlock ∨ v'.ownBlock = none) : Two w0 w cb cp N mc v' mm' ob obj := by
  obtain ⟨nv, n, f, I, hn, E, hs, b, h1, h2⟩ := T
  refine ⟨nv, n, f, I, hn, E', fun k hk => ?_, b, h1, h2⟩
  rcases hv with e | e
  · exact hs k (by rw [← e]; exact hk)
  · rw [e] at hk; cases hk

/-- Behind a call on the cache. -/
theorem two_step {nv nv' : Value} {n n' : Nat} {f f' : Int} {mc' : List (Int × Int)} {N' : Nat} (I : Inv w w0.heap.size cb nv n f cp mc) (E : EntB w w0.heap.size v mm) (hs : ∀ k, v.ownBlock = some k → ¬ own cb nv k) (b : Below w0.heap.size w0 w) (h1 : w.heap[ob]? = some obj) (h2 : ¬ own cb nv ob)
    (I' : Inv w' w0.heap.size cb nv' n' f' cp mc') (hn' : n' ≤ N') (g : Fr (own cb nv) w w') (hf : ∀ j, nv'.ownBlock = some j → nv.ownBlock = some j ∨ w.heap.size ≤ j) :
    Two w0 w' cb cp N' mc' v mm ob obj := by
  have hol : ob < w.heap.size := (Array.getElem?_eq_some_iff.1 h1).1
  have hno : ∀ k, k < w.heap.size → ¬ own cb nv k → ¬ own cb nv' k := by
    rintro k hk hn (h | h)
    · exact hn (.inl h)
    · rcases hf k h with h' | h'
      · exact hn (.inr h')
      · omega
  refine ⟨nv', n', f', I', hn', E.fr g hs, fun k hk => hno k (E.lt k hk).2 (hs k hk), b.trans (g.toBelow b.size (fun k hk => (I.own_lt k hk).1)), ?_, hno ob hol h2⟩
  rw [g.block ob hol h2]; exact h1

theorem two_put (k x : Int) (T : Two w0 w cb cp N mc v mm ob obj) (hN : N ≤ 80000) :
    Calls Ybgv.prog 11 #[.pointer (some ⟨cb, 0, none⟩), .int .i64 k, .int .i64 x] w fun e w' =>
      e = .returned (.tuple #[.agg #[.int .i64 (pOut cp mc k x).1.1, .int .i64 (pOut cp mc k x).1.2], .bool (pOut cp mc k x).2]) ∧ Two w0 w' cb cp (N + 1) (mPut cp mc k x) v mm ob obj := by
  obtain ⟨nv, n, f, I, hn, E, hs, b, h1, h2⟩ := T
  refine (put_any k x I (by omega)).mono ?_
  rintro e w' ⟨rfl, ⟨nv', n', f', I', hn', hf⟩, g⟩
  exact ⟨rfl, two_step I E hs b h1 h2 I' (by omega) g hf⟩
theorem two_get (k : Int) (T : Two w0 w cb cp N mc v mm ob obj) (hN : N ≤ 80000) :
    Calls Ybgv.prog 15 #[.pointer (some ⟨cb, 0, none⟩), .int .i64 k] w fun e w' =>
      e = .returned (.tuple #[.int .i64 (valOf mc k), .bool (hasK mc k)]) ∧ Two w0 w' cb cp N (mGet mc k) v mm ob obj := by
  obtain ⟨nv, n, f, I, hn, E, hs, b, h1, h2⟩ := T
  refine (get_any k I (by omega)).mono ?_
  rintro e w' ⟨rfl, I', g⟩
  exact ⟨rfl, two_step I E hs b h1 h2 I' hn g (fun j hj => .inl hj)⟩
theorem two_rem (k : Int) (T : Two w0 w cb cp N mc v mm ob obj) (hN : N ≤ 80000) :
    Calls Ybgv.prog 16 #[.pointer (some ⟨cb, 0, none⟩), .int .i64 k] w fun e w' =>
      e = .returned (.tuple #[.int .i64 (valOf mc k), .bool (hasK mc k)]) ∧ Two w0 w' cb cp N (del mc k) v mm ob obj := by
  obtain ⟨nv, n, f, I, hn, E, hs, b, h1, h2⟩ := T
  refine (remove_any k I (by omega)).mono ?_
  rintro e w' ⟨rfl, ⟨f', I'⟩, g⟩
  exact ⟨rfl, two_step I E hs b h1 h2 I' hn g (fun j hj => .inl hj)⟩
theorem two_ev (T : Two w0 w cb cp N mc v mm ob obj) (hN : N ≤ 80000) :
    Calls Ybgv.prog 17 #[.pointer (some ⟨cb, 0, none⟩)] w fun e w' =>
      e = .returned (.tuple #[.agg #[.int .i64 (evOut mc).1, .int .i64 (evOut mc).2], .bool (!mc.isEmpty)]) ∧ Two w0 w' cb cp N mc.dropLast v mm ob obj := by
  obtain ⟨nv, n, f, I, hn, E, hs, b, h1, h2⟩ := T
  refine (evict_any I (by omega)).mono ?_
  rintro e w' ⟨rfl, ⟨f', I', _⟩, g⟩
  exact ⟨rfl, two_step I E hs b h1 h2 I' hn g (fun j hj => .inl hj)⟩
/-- As 'Two', of no local block. -/
def Duo (w0 w : World) (cb : Nat) (cp : Int) (N : Nat) (mc : List (Int × Int)) (v : Value) (mm : List (Int × Int)) : Prop :=
  ∃ nv n f, Inv w w0.heap.size cb nv n f cp mc ∧ n ≤ N ∧ EntB w w0.heap.size v mm ∧ (∀ k, v.ownBlock = some k → ¬ own cb nv k) ∧ Below w0.heap.size w0 w
theorem Two.duo (T : Two w0 w cb cp N mc v mm ob obj) : Duo w0 w cb cp N mc v mm := by
  obtain ⟨nv, n, f, I, hn, E, hs, b, h1, h2⟩ := T; exact ⟨nv, n, f, I, hn, E, hs, b⟩
theorem Duo.loc (T : Duo w0 w cb cp N mc v mm) (o : Obj) : Two w0 (w.alloc o) cb cp N mc v mm w.heap.size o := by
  obtain ⟨nv, n, f, I, hn, E, hs, b⟩ := T
  exact ⟨nv, n, f, I.alloc o, hn, E.alloc o, hs, b.alloc b.size o, heap_alloc_new w o, fun ho => by have := (I.own_lt _ ho).2; omega⟩
theorem Duo.below (T : Duo w0 w cb cp N mc v mm) : Below w0.heap.size w0 w := by
  obtain ⟨nv, n, f, I, hn, E, hs, b⟩ := T; exact b
theorem Duo.ent (T : Duo w0 w cb cp N mc v mm) : EntB w w0.heap.size v mm := by
  obtain ⟨nv, n, f, I, hn, E, hs, b⟩ := T; exact E
theorem Duo.dis (T : Duo w0 w cb cp N mc v mm) : distinct mc := by
  obtain ⟨nv, n, f, I, hn, E, hs, b⟩ := T; exact I.dis
theorem Duo.len (T : Duo w0 w cb cp N mc v mm) : mc.length ≤ N ∧ (mc.length : Int) ≤ cp := by
  obtain ⟨nv, n, f, I, hn, E, hs, b⟩ := T; exact ⟨Nat.le_trans I.len_n hn, I.len_le⟩
theorem Duo.mono (T : Duo w0 w cb cp N mc v mm) {N' : Nat} (h : N ≤ N') : Duo w0 w cb cp N' mc v mm := by
  obtain ⟨nv, n, f, I, hn, E, hs, b⟩ := T; exact ⟨nv, n, f, I, Nat.le_trans hn h, E, hs, b⟩
theorem Duo.keep (T : Duo w0 w cb cp N mc v mm) (hb : Below w.heap.size w w') : Duo w0 w' cb cp N mc v mm := by
  obtain ⟨nv, n, f, I, hn, E, hs, b⟩ := T
  exact ⟨nv, n, f, I.below hb, hn, E.below hb, hs, b.trans (hb.mono b.size)⟩
theorem Duo.to (T : Duo w0 w cb cp N mc v mm) (h : mm = mc) : Duo w0 w cb cp N mc v mc := h ▸ T
theorem duo_new (I : Inv w' w0.heap.size w0.heap.size (.slice none 0 0) 0 (-1) cp []) (b : Below w0.heap.size w0 w') :
    Duo w0 w' w0.heap.size cp 0 [] (.slice none 0 0) [] :=
  ⟨_, _, _, I, Nat.le_refl _, EntB.nil _ _, fun k hk => by simp [Value.ownBlock] at hk, b⟩
/-- Behind New. -/
theorem two_new (I : Inv w' w0.heap.size w0.heap.size (.slice none 0 0) 0 (-1) cp []) (b : Below w0.heap.size w0 w') (o : Obj) :
    Two w0 (w'.alloc o) w0.heap.size cp 0 [] (.slice none 0 0) [] w'.heap.size o := by
  refine ⟨_, _, _, I.alloc o, Nat.le_refl _, EntB.nil _ _, fun k hk => by simp [Value.ownBlock] at hk, b.alloc b.size o, heap_alloc_new _ _, fun ho => by have := (I.own_lt _ ho).2; omega⟩
end

/-! ### The model's steps, in the text's own words -/
theorem eI_nat (m : List (Int × Int)) (k : Nat) : eI m (k : Int) = m.eraseIdx k := by
  have h : ¬ ((k : Int) < 0) := by omega
  simp [eI, h]
theorem eI_mid (a b : List (Int × Int)) (e : Int × Int) : eI (a ++ e :: b) (a.length : Int) = a ++ b := by
  rw [eI_nat, List.eraseIdx_append_of_length_le (Nat.le_refl _)]
  simp
theorem eI_last (m : List (Int × Int)) (h : m ≠ []) : eI m ((m.length : Int) - 1) = m.dropLast := by
  have hl : 0 < m.length := List.length_pos_iff.2 h
  rw [show ((m.length : Int) - 1) = ((m.length - 1 : Nat) : Int) by omega, eI_nat, List.eraseIdx_length_sub_one]
theorem hasK_cases (m : List (Int × Int)) (k : Int) (d : distinct m) :
    (hasK m k = false ∧ goIdx m k = -1 ∧ valOf m k = 0 ∧ del m k = m) ∨
    ∃ (j : Nat) (e : Int × Int), hasK m k = true ∧ goIdx m k = (j : Int) ∧ m[j]? = some e ∧ e = (k, valOf m k) ∧ eI m (j : Int) = del m k := by
  rcases key_cases k m with h | ⟨a, e, b, rfl, h1, h2⟩
  · exact .inl ⟨hasK_none h, goIdx_miss h, valOf_none h, del_none h⟩
  · refine .inr ⟨a.length, e, hasK_some h2, goIdx_hit h1 h2, by simp, ?_, ?_⟩
    · rw [valOf_some h1 h2, ← h2]
    · rw [eI_mid, del_some h1 h2 d]

/-- A slice of structs of three integers that came in. -/
def Ops3 (k0 k1 k2 : IntKind) (w : World) (a : Option Addr) (len : Nat) (f0 f1 f2 : Nat → Int) : Prop :=
  ∀ k, k < len → ∃ b off, a = some ⟨b, off, none⟩ ∧ b < w.heap.size ∧ w.cell? ⟨b, off + k * 3, none⟩ = some (.int k0 (f0 k)) ∧ w.cell? ⟨b, off + k * 3 + 1, none⟩ = some (.int k1 (f1 k)) ∧ w.cell? ⟨b, off + k * 3 + 2, none⟩ = some (.int k2 (f2 k))

theorem loc_cells {w : World} {ob : Nat} {x y z : Value} {t : TypeId} (h : w.heap[ob]? = some (.cells #[x, y, z] t)) :
    w.cell? ⟨ob, 0, none⟩ = some x ∧ w.cell? ⟨ob, 1, none⟩ = some y ∧ w.cell? ⟨ob, 2, none⟩ = some z := by
  simp [World.cell?, h]
theorem loc_lt {w : World} {ob : Nat} {o : Obj} (h : w.heap[ob]? = some o) : ob < w.heap.size := (Array.getElem?_eq_some_iff.1 h).1
theorem mPut_zero (m : List (Int × Int)) (k v : Int) : mPut 0 m k v = m := if_pos rfl
theorem mPut_hit {cp : Int} {m : List (Int × Int)} {k v : Int} (h0 : cp ≠ 0) (h : hasK m k = true) : mPut cp m k v = (k, v) :: del m k := by
  unfold mPut; rw [if_neg h0, if_pos h]
theorem mPut_full {cp : Int} {m : List (Int × Int)} {k v : Int} (h0 : cp ≠ 0) (h : hasK m k = false) (hl : (m.length : Int) = cp) : mPut cp m k v = (k, v) :: m.dropLast := by
  unfold mPut; rw [if_neg h0, h, if_neg (by simp), if_pos hl]
theorem mPut_room {cp : Int} {m : List (Int × Int)} {k v : Int} (h0 : cp ≠ 0) (h : hasK m k = false) (hl : (m.length : Int) ≠ cp) : mPut cp m k v = (k, v) :: m := by
  unfold mPut; rw [if_neg h0, h, if_neg (by simp), if_neg hl]
theorem mGet_hit {m : List (Int × Int)} {k : Int} (h : hasK m k = true) : mGet m k = (k, valOf m k) :: del m k := by
  unfold mGet; rw [if_pos h]
theorem mGet_miss {m : List (Int × Int)} {k : Int} (h : hasK m k = false) : mGet m k = m := by
  unfold mGet; rw [h]; rfl

end Go.Proofs.Ymwhbg
