/-
  Plain mathematics: what each operation of the cache does to the two chains and to the list that it stands for.
-/
import Derived.Test.YmwhbgPlain
namespace Go.Proofs.Ymwhbg
set_option linter.unusedVariables false
set_option linter.unusedSimpArgs false

theorem nodup_mid {A B F : List Nat} {s : Nat} (h : ((A ++ s :: B) ++ F).Nodup) : (A ++ s :: B).Nodup ∧ (A ++ B).Nodup ∧ s ∉ A ++ B ∧ s ∉ F ∧ F.Nodup ∧ (∀ x ∈ F, x ∉ A ++ B) := by
  have h0 := List.nodup_append.1 h
  have h1 := List.nodup_append.1 h0.1
  have h2 := List.nodup_cons.1 h1.2.1
  refine ⟨h0.1, List.nodup_append.2 ⟨h1.1, h2.2, fun a ha b hb => h1.2.2 a ha b (by simp [hb])⟩, ?_, ?_, h0.2.1, ?_⟩
  · intro hs
    rcases List.mem_append.1 hs with hs | hs
    · exact h1.2.2 s hs s (by simp) rfl
    · exact h2.1 hs
  · intro hs; exact h0.2.2 s (by simp) s hs rfl
  · intro x hx hx'
    refine h0.2.2 x ?_ x hx rfl
    rcases List.mem_append.1 hx' with hs | hs <;> simp [hs]

theorem nodup_touch {A B F : List Nat} {s : Nat} (h : ((A ++ s :: B) ++ F).Nodup) : ((s :: (A ++ B)) ++ F).Nodup := by
  obtain ⟨h1, h2, h3, h4, h5, h6⟩ := nodup_mid h
  rw [List.cons_append, List.nodup_cons]
  refine ⟨by simp only [List.mem_append] at h3 ⊢; rintro (x | x); exact h3 x; exact h4 x, ?_⟩
  rw [List.nodup_append]
  exact ⟨h2, h5, fun a ha b hb e => h6 b hb (e ▸ ha)⟩
theorem nodup_drop {A B F : List Nat} {s : Nat} (h : ((A ++ s :: B) ++ F).Nodup) : ((A ++ B) ++ s :: F).Nodup := by
  obtain ⟨h1, h2, h3, h4, h5, h6⟩ := nodup_mid h
  rw [List.nodup_append]
  refine ⟨h2, List.nodup_cons.2 ⟨h4, h5⟩, fun a ha b hb e => ?_⟩
  subst e
  rcases List.mem_cons.1 hb with rfl | hb
  · exact h3 ha
  · exact h6 a hb ha

/-- A slot is unlinked and pushed to the front. -/
theorem Rep.touch {n : Nat} {P X : Nat → Int} {f : Int} {A B F : List Nat} {s : Nat} (r : Rep n P X f (A ++ s :: B) F) :
    Rep n (updI (upd (updI P (X s) (P s)) s (-1)) (hd (A ++ B)) s) (upd (updI X (P s) (X s)) s (hd (A ++ B))) f (s :: (A ++ B)) F := by
  obtain ⟨h1, h2, h3, h4, h5, h6⟩ := nodup_mid r.nd
  obtain ⟨u1, _, _, u4⟩ := r.dl.unlink h1
  refine ⟨(u1.push h2 h3).1, r.sl.congr ?_, nodup_touch r.nd, ?_, by have := r.len; simp at this ⊢; omega⟩
  · intro j hj
    have hjs : j ≠ s := fun e => h4 (e ▸ hj)
    rw [upd_other _ _ _ _ hjs, (u4 j (h6 j hj)).2]
  · intro x hx; apply r.lt; simp at hx ⊢; rcases hx with h | h | h | h <;> simp [h]

/-- A slot is unlinked and laid on the free list. -/
theorem Rep.drop {n : Nat} {P X : Nat → Int} {f : Int} {A B F : List Nat} {s : Nat} (r : Rep n P X f (A ++ s :: B) F) :
    Rep n (upd (updI P (X s) (P s)) s (-1)) (upd (updI X (P s) (X s)) s f) s (A ++ B) (s :: F) := by
  obtain ⟨h1, h2, h3, h4, h5, h6⟩ := nodup_mid r.nd
  obtain ⟨u1, _, _, u4⟩ := r.dl.unlink h1
  refine ⟨u1.congr ?_, SL.cons (r.sl.congr ?_) (upd_same _ _ _), nodup_drop r.nd, ?_, by have := r.len; simp at this ⊢; omega⟩
  · intro j hj
    have : j ≠ s := fun e => h3 (e ▸ hj)
    exact ⟨upd_other _ _ _ _ this, upd_other _ _ _ _ this⟩
  · intro j hj
    have hjs : j ≠ s := fun e => h4 (e ▸ hj)
    rw [upd_other _ _ _ _ hjs, (u4 j (h6 j hj)).2]
  · intro x hx; apply r.lt; simp at hx ⊢; rcases hx with h | h | h | h <;> simp [h]

/-- A free slot is taken and pushed to the front. -/
theorem Rep.take {n : Nat} {P X : Nat → Int} {f : Int} {L F : List Nat} {s : Nat} (r : Rep n P X f L (s :: F)) :
    f = s ∧ Rep n (updI (upd P s (-1)) (hd L) s) (upd X s (hd L)) (X s) (s :: L) F := by
  have h0 := List.nodup_append.1 r.nd
  have h2 := List.nodup_cons.1 h0.2.1
  have hs : s ∉ L := fun h => h0.2.2 s h s (by simp) rfl
  refine ⟨r.sl.tail.1, (r.dl.push h0.1 hs).1, r.sl.tail.2.congr ?_, ?_, ?_, by have := r.len; simp at this ⊢; omega⟩
  · intro j hj; exact upd_other _ _ _ _ (fun e => h2.1 (e ▸ hj))
  · rw [List.cons_append, List.nodup_cons]
    refine ⟨by simp only [List.mem_append]; rintro (x | x); exact hs x; exact h2.1 x, ?_⟩
    rw [List.nodup_append]
    exact ⟨h0.1, h2.2, fun a ha b hb => h0.2.2 a ha b (by simp [hb])⟩
  · intro x hx; apply r.lt; simp at hx ⊢; rcases hx with h | h | h <;> simp [h]

/-- A new slot is made and pushed to the front. -/
theorem Rep.grow {n : Nat} {P X P0 X0 : Nat → Int} {L : List Nat} (r : Rep n P X (-1) L []) (e : ∀ j, j < n → P0 j = P j ∧ X0 j = X j) :
    Rep (n + 1) (updI (upd P0 n (-1)) (hd L) n) (upd X0 n (hd L)) (-1) (n :: L) [] := by
  have hnd : L.Nodup := by simpa using r.nd
  have hs : n ∉ L := fun h => by have := r.lt n (by simp [h]); omega
  have d0 : DL P0 X0 L := r.dl.congr (fun j hj => e j (r.lt j (by simp [hj])))
  refine ⟨(d0.push hnd hs).1, ⟨rfl, fun A s B h => by simp at h⟩, by simpa using ⟨hs, hnd⟩, ?_, by have := r.len; simp at this ⊢; omega⟩
  intro x hx; simp at hx; rcases hx with rfl | h
  · omega
  · have := r.lt x (by simp [h]); omega

theorem Rep.free_nil {n : Nat} {P X : Nat → Int} {L F : List Nat} (r : Rep n P X (-1) L F) : F = [] := by
  cases F with
  | nil => rfl
  | cons a F => have := r.sl.1; simp only [hd] at this; omega
theorem Rep.free_cons {n : Nat} {P X : Nat → Int} {f : Int} {L F : List Nat} (r : Rep n P X f L F) (h : f ≠ -1) : ∃ s F', F = s :: F' ∧ f = s := by
  cases F with
  | nil => exact absurd r.sl.1 h
  | cons a F => exact ⟨a, F, rfl, r.sl.1⟩

/-! ### The list -/
theorem ents_congr {K V K' V' : Nat → Int} {L : List Nat} (h : ∀ s ∈ L, K' s = K s ∧ V' s = V s) : ents K' V' L = ents K V L := by
  unfold ents
  refine List.map_congr_left fun s hs => ?_
  rw [(h s hs).1, (h s hs).2]
theorem ents_append (K V : Nat → Int) (A B : List Nat) : ents K V (A ++ B) = ents K V A ++ ents K V B := by simp [ents]
theorem ents_cons (K V : Nat → Int) (s : Nat) (B : List Nat) : ents K V (s :: B) = (K s, V s) :: ents K V B := rfl
theorem ents_length (K V : Nat → Int) (L : List Nat) : (ents K V L).length = L.length := by simp [ents]

theorem del_none {m : List (Int × Int)} {k : Int} (h : ∀ x ∈ m, x.1 ≠ k) : del m k = m := by
  unfold del; rw [List.filter_eq_self]; intro a ha; simpa using h a ha
theorem hasK_none {m : List (Int × Int)} {k : Int} (h : ∀ x ∈ m, x.1 ≠ k) : hasK m k = false := by
  unfold hasK; rw [List.any_eq_false]; intro a ha; simpa using h a ha
theorem valOf_none {m : List (Int × Int)} {k : Int} (h : ∀ x ∈ m, x.1 ≠ k) : valOf m k = 0 := by
  unfold valOf
  rw [List.find?_eq_none.2 (by intro a ha; simpa using h a ha)]; rfl
theorem distinct_mid {a b : List (Int × Int)} {e : Int × Int} (d : distinct (a ++ e :: b)) : ∀ x ∈ b, x.1 ≠ e.1 := by
  intro x hx he
  unfold distinct at d
  rw [List.map_append, List.map_cons, List.nodup_append] at d
  exact (List.nodup_cons.1 d.2.1).1 (by rw [← he]; exact List.mem_map.2 ⟨x, hx, rfl⟩)
theorem del_some {a b : List (Int × Int)} {e : Int × Int} {k : Int} (h : ∀ x ∈ a, x.1 ≠ k) (he : e.1 = k) (d : distinct (a ++ e :: b)) : del (a ++ e :: b) k = a ++ b := by
  have h1 := del_none h
  have h2 : del b k = b := del_none (by subst he; exact distinct_mid d)
  unfold del at h1 h2 ⊢
  rw [List.filter_append, h1, List.filter_cons, if_neg (by simp [he]), h2]
theorem hasK_some {a b : List (Int × Int)} {e : Int × Int} {k : Int} (he : e.1 = k) : hasK (a ++ e :: b) k = true := by
  simp [hasK, he]
theorem valOf_some {a b : List (Int × Int)} {e : Int × Int} {k : Int} (h : ∀ x ∈ a, x.1 ≠ k) (he : e.1 = k) : valOf (a ++ e :: b) k = e.2 := by
  unfold valOf
  rw [List.find?_append, List.find?_eq_none.2 (by intro a ha; simpa using h a ha)]
  simp [List.find?_cons, he]
theorem distinct_del {m : List (Int × Int)} (d : distinct m) (k : Int) : distinct (del m k) := by
  unfold distinct del at *
  exact d.sublist ((List.filter_sublist).map _)
theorem distinct_dropLast {m : List (Int × Int)} (d : distinct m) : distinct m.dropLast := by
  unfold distinct at *
  exact d.sublist ((List.dropLast_sublist m).map _)
theorem del_not_mem (m : List (Int × Int)) (k : Int) : ∀ x ∈ del m k, x.1 ≠ k := by
  intro x hx; unfold del at hx; simpa using (List.mem_filter.1 hx).2
theorem distinct_cons {m : List (Int × Int)} {k v : Int} (d : distinct m) (h : ∀ x ∈ m, x.1 ≠ k) : distinct ((k, v) :: m) := by
  unfold distinct at *
  rw [List.map_cons, List.nodup_cons]
  refine ⟨?_, d⟩
  intro hk
  obtain ⟨x, hx, e⟩ := List.mem_map.1 hk
  exact h x hx e
theorem key_cases (k : Int) : ∀ m : List (Int × Int), (∀ x ∈ m, x.1 ≠ k) ∨ ∃ a e b, m = a ++ e :: b ∧ (∀ x ∈ a, x.1 ≠ k) ∧ e.1 = k
  | [] => .inl (by simp)
  | x :: m => by
    by_cases h : x.1 = k
    · exact .inr ⟨[], x, m, rfl, by simp, h⟩
    · rcases key_cases k m with h' | ⟨A, s, B, rfl, h1, h2⟩
      · exact .inl (by intro y hy; rcases List.mem_cons.1 hy with rfl | hy; exact h; exact h' y hy)
      · exact .inr ⟨x :: A, s, B, rfl, by intro y hy; rcases List.mem_cons.1 hy with rfl | hy; exact h; exact h1 y hy, h2⟩

theorem distinct_get {m : List (Int × Int)} (d : distinct m) (k : Int) : distinct (mGet m k) := by
  unfold mGet
  split
  · exact distinct_cons (distinct_del d k) (del_not_mem m k)
  · exact d
theorem del_length {m : List (Int × Int)} (d : distinct m) {k : Int} (h : hasK m k = true) : (del m k).length + 1 = m.length := by
  rcases key_cases k m with h' | ⟨a, e, b, rfl, h1, h2⟩
  · rw [hasK_none h'] at h; cases h
  · rw [del_some h1 h2 d]; simp; omega
theorem get_length {m : List (Int × Int)} (d : distinct m) (k : Int) : (mGet m k).length = m.length := by
  unfold mGet
  split
  · rename_i h; simp [del_length d h]
  · rfl
theorem distinct_put {cp : Int} {m : List (Int × Int)} (d : distinct m) (k v : Int) : distinct (mPut cp m k v) := by
  unfold mPut
  split
  · exact d
  split
  · exact distinct_cons (distinct_del d k) (del_not_mem m k)
  · rename_i h
    have hn : ∀ x ∈ m, x.1 ≠ k := by
      rcases key_cases k m with h' | ⟨a, e, b, rfl, h1, h2⟩
      · exact h'
      · exact absurd (hasK_some h2) h
    split
    · exact distinct_cons (distinct_dropLast d) (fun x hx => hn x (List.dropLast_subset m hx))
    · exact distinct_cons d hn
theorem put_length {cp : Int} {m : List (Int × Int)} (d : distinct m) (hl : (m.length : Int) ≤ cp) (k v : Int) : ((mPut cp m k v).length : Int) ≤ cp ∧ (mPut cp m k v).length ≤ m.length + 1 := by
  unfold mPut
  split
  · exact ⟨hl, by omega⟩
  split
  · rename_i h; have := del_length d h; simp; omega
  split
  · simp; omega
  · simp; omega

end Go.Proofs.Ymwhbg
