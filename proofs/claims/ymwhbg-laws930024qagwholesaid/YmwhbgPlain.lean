/-
  Plain mathematics: doubly linked lists by slot numbers; the list that a cache stands for; no Go in sight.
-/
namespace Go.Proofs.Ymwhbg
set_option linter.unusedVariables false
set_option linter.unusedSimpArgs false

/-- The head of a list of slots, or -1. -/
def hd : List Nat → Int
  | [] => -1
  | a :: _ => (a : Int)
/-- The last, or -1. -/
def lst (l : List Nat) : Int := hd l.reverse

theorem hd_nil : hd [] = -1 := rfl
theorem hd_cons (a : Nat) (l : List Nat) : hd (a :: l) = (a : Int) := rfl
theorem lst_nil : lst [] = -1 := rfl
theorem lst_snoc (l : List Nat) (a : Nat) : lst (l ++ [a]) = (a : Int) := by simp [lst, hd]
theorem snoc_cases (l : List Nat) : l = [] ∨ ∃ d a, l = d ++ [a] := by
  rcases List.eq_nil_or_concat l with h | ⟨d, a, h⟩
  · exact .inl h
  · exact .inr ⟨d, a, by simpa using h⟩
theorem hd_append (a : Nat) (l m : List Nat) : hd ((a :: l) ++ m) = (a : Int) := rfl
theorem hd_app {l : List Nat} (h : l ≠ []) (m : List Nat) : hd (l ++ m) = hd l := by cases l <;> simp_all [hd]
theorem lst_app (l : List Nat) {m : List Nat} (h : m ≠ []) : lst (l ++ m) = lst m := by
  simp only [lst, List.reverse_append]
  exact hd_app (by simpa using h) _
theorem lst_single (a : Nat) : lst [a] = (a : Int) := rfl

/-- f with its value at i turned to x. -/
def upd (f : Nat → Int) (i : Nat) (x : Int) : Nat → Int := fun j => if j = i then x else f j
theorem upd_same (f : Nat → Int) (i : Nat) (x : Int) : upd f i x i = x := if_pos rfl
theorem upd_other (f : Nat → Int) (i : Nat) (x : Int) (j : Nat) (h : j ≠ i) : upd f i x j = f j := if_neg h
/-- A slot's number that is -1 or stands for a slot. -/
def Slot (n : Nat) (p : Int) : Prop := p = -1 ∨ ∃ j : Nat, j < n ∧ p = (j : Int)
/-- f turned at p, unless p is -1. -/
def updI (f : Nat → Int) (p : Int) (x : Int) : Nat → Int := if p = -1 then f else upd f p.toNat x
/-- a if p is -1, else b. -/
def orI (p a b : Int) : Int := if p = -1 then a else b
theorem updI_neg (f : Nat → Int) (x : Int) : updI f (-1) x = f := if_pos rfl
theorem updI_nat (f : Nat → Int) (j : Nat) (x : Int) : updI f (j : Int) x = upd f j x := by
  have h : ¬ ((j : Int) = -1) := by omega
  simp [updI, h]
theorem orI_neg (a b : Int) : orI (-1) a b = a := if_pos rfl
theorem orI_nat (j : Nat) (a b : Int) : orI (j : Int) a b = b := by
  have h : ¬ ((j : Int) = -1) := by omega
  simp [orI, h]

/-- A doubly linked list. -/
def DL (P X : Nat → Int) (L : List Nat) : Prop := ∀ A s B, L = A ++ s :: B → P s = lst A ∧ X s = hd B
/-- A singly linked list. -/
def SL (X : Nat → Int) (f : Int) (F : List Nat) : Prop := f = hd F ∧ ∀ A s B, F = A ++ s :: B → X s = hd B

theorem hd_ne {l : List Nat} {j : Nat} (h : j ∉ l) : hd l ≠ (j : Int) := by
  cases l with
  | nil => simp only [hd]; omega
  | cons a l => simp only [hd]; intro e; apply h; have : a = j := by omega
                simp [this]
theorem lst_ne {l : List Nat} {j : Nat} (h : j ∉ l) : lst l ≠ (j : Int) := hd_ne (by simpa using h)
theorem hd_slot {l : List Nat} {n : Nat} (h : ∀ s ∈ l, s < n) : Slot n (hd l) := by
  cases l with
  | nil => exact .inl rfl
  | cons a l => exact .inr ⟨a, h a (by simp), rfl⟩
theorem lst_slot {l : List Nat} {n : Nat} (h : ∀ s ∈ l, s < n) : Slot n (lst l) := hd_slot (by simpa using h)
theorem updI_hd_other (f : Nat → Int) (l : List Nat) (x : Int) (j : Nat) (h : j ∉ l) : updI f (hd l) x j = f j := by
  cases l with
  | nil => rw [hd, updI_neg]
  | cons a l => rw [hd, updI_nat, upd_other]; intro e; exact h (by simp [e])
theorem updI_lst_other (f : Nat → Int) (l : List Nat) (x : Int) (j : Nat) (h : j ∉ l) : updI f (lst l) x j = f j := updI_hd_other f _ x j (by simpa using h)

/-- What unlinking does. -/
theorem DL.unlink {P X : Nat → Int} {A B : List Nat} {s : Nat} (h : DL P X (A ++ s :: B)) (nd : (A ++ s :: B).Nodup) :
    DL (updI P (X s) (P s)) (updI X (P s) (X s)) (A ++ B) ∧ orI (P s) (X s) (hd (A ++ s :: B)) = hd (A ++ B) ∧ orI (X s) (P s) (lst (A ++ s :: B)) = lst (A ++ B)
      ∧ ∀ j, j ∉ A ++ B → updI P (X s) (P s) j = P j ∧ updI X (P s) (X s) j = X j := by
  obtain ⟨hp, hx⟩ := h A s B rfl
  have one : ∀ C j B', B = C ++ j :: B' → updI P (hd B) (lst A) j = lst (A ++ C) ∧ updI X (lst A) (hd B) j = hd B' := by
    intro C j B' e
    obtain ⟨h1, h2⟩ := h (A ++ s :: C) j B' (by simp [e])
    have hjA : j ∉ A := by
      intro hj; rw [List.nodup_append] at nd
      exact nd.2.2 j hj j (by simp [e]) rfl
    refine ⟨?_, by rw [updI_lst_other _ _ _ _ hjA, h2]⟩
    cases C with
    | nil => rw [e]; simp only [List.nil_append, hd_cons, updI_nat, upd_same, List.append_nil]
    | cons y C =>
      have hyj : y ≠ j := by
        rintro rfl; rw [List.nodup_append] at nd
        have := (List.nodup_cons.1 nd.2.1).2
        rw [e] at this; simp at this
      rw [e, hd_append, updI_nat, upd_other _ _ _ _ (Ne.symm hyj), h1, lst_app _ (by simp), lst_app _ (by simp)]
      exact lst_app [s] (m := y :: C) (by simp)
  refine ⟨?_, ?_, ?_, ?_⟩
  · intro A' j B' e
    rw [hp, hx]
    rcases List.append_eq_append_iff.1 e with ⟨C, e1, e2⟩ | ⟨C, e1, e2⟩
    · obtain ⟨r1, r2⟩ := one C j B' e2
      exact ⟨by rw [r1, e1], r2⟩
    · cases C with
      | nil =>
        simp only [List.append_nil, List.nil_append] at e1 e2
        obtain ⟨r1, r2⟩ := one [] j B' e2.symm
        exact ⟨by rw [r1, e1]; simp, r2⟩
      | cons y C =>
        simp only [List.cons_append, List.cons.injEq] at e2
        obtain ⟨rfl, rfl⟩ := e2
        obtain ⟨h1, h2⟩ := h A' j (C ++ s :: B) (by simp [e1])
        have hjB : j ∉ B := by
          intro hj; rw [List.nodup_append] at nd
          exact nd.2.2 j (by simp [e1]) j (by simp [hj]) rfl
        refine ⟨by rw [updI_hd_other _ _ _ _ hjB, h1], ?_⟩
        rcases snoc_cases C with rfl | ⟨D, z, rfl⟩
        · rw [e1, lst_app _ (by simp), lst_single, updI_nat, upd_same]; rfl
        · have hz : j ≠ z := by
            rintro rfl; rw [List.nodup_append] at nd
            have := nd.1; rw [e1, List.nodup_append] at this
            have := (List.nodup_cons.1 this.2.1).1
            simp at this
          have e3 : lst A = (z : Int) := by
            rw [e1, lst_app _ (by simp), ← List.cons_append, lst_app _ (by simp)]; rfl
          rw [e3, updI_nat, upd_other _ _ _ _ hz, h2, hd_app (l := D ++ [z]) (by simp), hd_app (l := D ++ [z]) (by simp)]
  · rw [hp, hx]
    rcases snoc_cases A with rfl | ⟨D, z, rfl⟩
    · rw [lst_nil, orI_neg]; rfl
    · rw [lst_snoc, orI_nat, hd_app (l := D ++ [z]) (by simp), hd_app (l := D ++ [z]) (by simp)]
  · rw [hp, hx]
    cases B with
    | nil => rw [hd_nil, orI_neg, List.append_nil]
    | cons y B => rw [hd_cons, orI_nat, lst_app _ (by simp), lst_app _ (by simp)]; exact lst_app [s] (m := y :: B) (by simp)
  · intro j hj
    rw [hp, hx]
    simp only [List.mem_append, not_or] at hj
    exact ⟨updI_hd_other _ _ _ _ hj.2, updI_lst_other _ _ _ _ hj.1⟩

/-- What pushing to the front does. -/
theorem DL.push {P X : Nat → Int} {L : List Nat} {s : Nat} (h : DL P X L) (nd : L.Nodup) (hs : s ∉ L) :
    DL (updI (upd P s (-1)) (hd L) s) (upd X s (hd L)) (s :: L) ∧ orI (hd L) s (lst L) = lst (s :: L) := by
  constructor
  · intro A j B e
    cases A with
    | nil =>
      simp only [List.nil_append, List.cons.injEq] at e
      obtain ⟨rfl, rfl⟩ := e
      exact ⟨by rw [updI_hd_other _ _ _ _ hs, upd_same]; rfl, upd_same _ _ _⟩
    | cons a A =>
      simp only [List.cons_append, List.cons.injEq] at e
      obtain ⟨rfl, rfl⟩ := e
      obtain ⟨h1, h2⟩ := h A j B rfl
      have hj : j ≠ s := by rintro rfl; exact hs (by simp)
      refine ⟨?_, by rw [upd_other _ _ _ _ hj, h2]⟩
      cases A with
      | nil => rw [List.nil_append, hd_cons, updI_nat, upd_same, lst_single]
      | cons y A =>
        have hy : j ≠ y := by
          rintro rfl; have := (List.nodup_cons.1 nd).1; simp at this
        rw [hd_append, updI_nat, upd_other _ _ _ _ hy, upd_other _ _ _ _ hj, h1]
        exact (lst_app [s] (m := y :: A) (by simp)).symm
  · cases L with
    | nil => rw [hd_nil, orI_neg]; rfl
    | cons y L => rw [hd_cons, orI_nat]; exact (lst_app [s] (m := y :: L) (by simp)).symm

theorem DL.congr {P X P' X' : Nat → Int} {L : List Nat} (h : DL P X L) (e : ∀ j ∈ L, P' j = P j ∧ X' j = X j) : DL P' X' L := by
  intro A s B hL
  obtain ⟨e1, e2⟩ := e s (by simp [hL])
  obtain ⟨h1, h2⟩ := h A s B hL
  exact ⟨e1.trans h1, e2.trans h2⟩
theorem SL.congr {X X' : Nat → Int} {f : Int} {F : List Nat} (h : SL X f F) (e : ∀ j ∈ F, X' j = X j) : SL X' f F :=
  ⟨h.1, fun A s B hF => (e s (by simp [hF])).trans (h.2 A s B hF)⟩
theorem SL.cons {X : Nat → Int} {f : Int} {F : List Nat} {s : Nat} (h : SL X f F) (hs : X s = f) : SL X s (s :: F) := by
  refine ⟨rfl, fun A j B e => ?_⟩
  cases A with
  | nil => simp only [List.nil_append, List.cons.injEq] at e; obtain ⟨rfl, rfl⟩ := e; rw [hs, h.1]
  | cons a A => simp only [List.cons_append, List.cons.injEq] at e; obtain ⟨rfl, rfl⟩ := e; exact h.2 A j B rfl
theorem SL.tail {X : Nat → Int} {f : Int} {F : List Nat} {s : Nat} (h : SL X f (s :: F)) : f = s ∧ SL X (X s) F :=
  ⟨h.1, h.2 [] s F rfl, fun A j B e => h.2 (s :: A) j B (by simp [e])⟩

/-- The slot that holds a key. -/
def slotOf (K : Nat → Int) (L : List Nat) (key : Int) : Int := hd (L.dropWhile fun s => K s != key)

theorem slotOf_hit {K : Nat → Int} {key : Int} {s : Nat} {B : List Nat} : ∀ {A : List Nat}, (∀ x ∈ A, K x ≠ key) → K s = key → slotOf K (A ++ s :: B) key = (s : Int)
  | [], _, h => by simp [slotOf, h, hd]
  | a :: A, ha, h => by
    have h1 := ha a (by simp)
    have h2 := slotOf_hit (A := A) (B := B) (fun x hx => ha x (by simp [hx])) h
    simp only [slotOf] at h2 ⊢
    simp [h1, h2]
theorem slotOf_miss {K : Nat → Int} {key : Int} : ∀ {A : List Nat}, (∀ x ∈ A, K x ≠ key) → slotOf K A key = -1
  | [], _ => rfl
  | a :: A, ha => by
    have h1 := ha a (by simp)
    have h2 := slotOf_miss (A := A) (fun x hx => ha x (by simp [hx]))
    simp only [slotOf] at h2 ⊢
    simp [h1, h2]
theorem slot_cases (K : Nat → Int) (key : Int) : ∀ L : List Nat, (∀ x ∈ L, K x ≠ key) ∨ ∃ A s B, L = A ++ s :: B ∧ (∀ x ∈ A, K x ≠ key) ∧ K s = key
  | [] => .inl (by simp)
  | a :: L => by
    by_cases h : K a = key
    · exact .inr ⟨[], a, L, rfl, by simp, h⟩
    · rcases slot_cases K key L with h' | ⟨A, s, B, rfl, h1, h2⟩
      · exact .inl (by intro x hx; rcases List.mem_cons.1 hx with rfl | hx; exact h; exact h' x hx)
      · exact .inr ⟨a :: A, s, B, rfl, by intro x hx; rcases List.mem_cons.1 hx with rfl | hx; exact h; exact h1 x hx, h2⟩

/-- What the slots of a list hold. -/
def ents (K V : Nat → Int) (L : List Nat) : List (Int × Int) := L.map fun s => (K s, V s)

/-- Both chains are sound and cover all slots. -/
structure Rep (n : Nat) (P X : Nat → Int) (f : Int) (L F : List Nat) : Prop where
  dl : DL P X L
  sl : SL X f F
  nd : (L ++ F).Nodup
  lt : ∀ s ∈ L ++ F, s < n
  len : L.length + F.length = n

/-! ### The model -/
/-- m without key k. -/
def del (m : List (Int × Int)) (k : Int) : List (Int × Int) := m.filter fun e => e.1 != k
def hasK (m : List (Int × Int)) (k : Int) : Bool := m.any fun e => e.1 == k
def valOf (m : List (Int × Int)) (k : Int) : Int := ((m.find? fun e => e.1 == k).map (·.2)).getD 0
def mGet (m : List (Int × Int)) (k : Int) : List (Int × Int) := if hasK m k then (k, valOf m k) :: del m k else m
def mPut (cp : Int) (m : List (Int × Int)) (k v : Int) : List (Int × Int) :=
  if cp = 0 then m else if hasK m k then (k, v) :: del m k else if (m.length : Int) = cp then (k, v) :: m.dropLast else (k, v) :: m
/-- What Put answers. -/
def pOut (cp : Int) (m : List (Int × Int)) (k v : Int) : (Int × Int) × Bool :=
  if cp = 0 then ((k, v), true) else if hasK m k then ((0, 0), false) else if (m.length : Int) = cp then (m.getLast?.getD (0, 0), true) else ((0, 0), false)
def distinct (m : List (Int × Int)) : Prop := (m.map (·.1)).Nodup

end Go.Proofs.Ymwhbg
