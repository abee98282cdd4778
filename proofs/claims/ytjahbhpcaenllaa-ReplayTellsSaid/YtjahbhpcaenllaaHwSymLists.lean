namespace Hw.Sym

def lex (f : Int → Int) (x y : Int) : Prop := f x < f y ∨ (f x = f y ∧ x < y)

structure Two (f : Int → Int) (L R : List Int) : Prop where
  l : L.Pairwise (lex f)
  r : R.Pairwise (lex f)
  lt : ∀ x ∈ L, ∀ y ∈ R, x < y

def SortOf (f : Int → Int) (l m : List Int) : Prop := m.Pairwise (lex f) ∧ m.Perm l

theorem lex_trans {f : Int → Int} {x y z : Int} (h : lex f x y) (k : lex f y z) : lex f x z := by
  unfold lex at *; omega

theorem key_mono {f : Int → Int} {l : List Int} (h : l.Pairwise (lex f)) {i j : Nat} (hij : i ≤ j) (hj : j < l.length) : f (l.getD i 0) ≤ f (l.getD j 0) := by
  rw [List.getD_eq_getElem?_getD, List.getD_eq_getElem?_getD, List.getElem?_eq_getElem (by omega), List.getElem?_eq_getElem hj]
  simp only [Option.getD_some]
  by_cases e : i = j
  · subst e; exact Int.le_refl _
  · have := List.pairwise_iff_getElem.1 h i j (by omega) hj (by omega)
    unfold lex at this; omega

theorem lex_mono {f : Int → Int} {l : List Int} (h : l.Pairwise (lex f)) {i j : Nat} (hij : i < j) (hj : j < l.length) : lex f (l.getD i 0) (l.getD j 0) := by
  rw [List.getD_eq_getElem?_getD, List.getD_eq_getElem?_getD, List.getElem?_eq_getElem (by omega), List.getElem?_eq_getElem hj]
  exact List.pairwise_iff_getElem.1 h i j (by omega) hj hij

/-- the pieces of two rows, when every one of the first pieces is ahead of every one of the second ones: sorted apart they are sorted together -/
theorem sort_halves {f : Int → Int} {L1 L2 R1 R2 M1 M2 : List Int} (h1 : SortOf f (L1 ++ R1) M1) (h2 : SortOf f (L2 ++ R2) M2)
    (hll : ∀ x ∈ L1, ∀ y ∈ L2, lex f x y) (hlr : ∀ x ∈ L1, ∀ y ∈ R2, lex f x y) (hrl : ∀ x ∈ R1, ∀ y ∈ L2, lex f x y) (hrr : ∀ x ∈ R1, ∀ y ∈ R2, lex f x y) :
    SortOf f (L1 ++ L2 ++ (R1 ++ R2)) (M1 ++ M2) := by
  refine ⟨List.pairwise_append.2 ⟨h1.1, h2.1, fun x hx y hy => ?_⟩, ?_⟩
  · have hx' := h1.2.subset hx
    have hy' := h2.2.subset hy
    rcases List.mem_append.1 hx' with hx' | hx' <;> rcases List.mem_append.1 hy' with hy' | hy'
    · exact hll x hx' y hy'
    · exact hlr x hx' y hy'
    · exact hrl x hx' y hy'
    · exact hrr x hx' y hy'
  · refine (h1.2.append h2.2).trans ?_
    -- L1 R1 L2 R2 ~ L1 L2 R1 R2
    have : (L1 ++ R1 ++ (L2 ++ R2)).Perm (L1 ++ L2 ++ (R1 ++ R2)) := by
      simp only [List.append_assoc]
      refine List.Perm.append_left L1 ?_
      rw [← List.append_assoc, ← List.append_assoc]
      exact List.Perm.append_right R2 List.perm_append_comm
    exact this

theorem mem_take_getD {l : List Int} {k : Nat} {x : Int} (h : x ∈ l.take k) : ∃ i, i < k ∧ i < l.length ∧ l.getD i 0 = x := by
  obtain ⟨j, hj, rfl⟩ := List.getElem_of_mem h
  simp only [List.length_take] at hj
  refine ⟨j, by omega, by omega, ?_⟩
  rw [List.getD_eq_getElem?_getD, List.getElem?_eq_getElem (by omega), Option.getD_some, List.getElem_take]

theorem mem_drop_getD {l : List Int} {k : Nat} {x : Int} (h : x ∈ l.drop k) : ∃ i, k ≤ i ∧ i < l.length ∧ l.getD i 0 = x := by
  obtain ⟨j, hj, rfl⟩ := List.getElem_of_mem h
  simp only [List.length_drop] at hj
  refine ⟨k + j, by omega, by omega, ?_⟩
  rw [List.getD_eq_getElem?_getD, List.getElem?_eq_getElem (by omega), Option.getD_some, List.getElem_drop]

/-- THE CUT: s of the left row stay, and e of the right row come ahead; the last that stays is ahead of the first of the right row that does not come, and the last that comes is ahead of the first that does not stay. -/
theorem cut_sorts {f : Int → Int} {L R M1 M2 : List Int} {s e : Nat} (T : Two f L R) (hs : s ≤ L.length) (he : e ≤ R.length)
    (h1 : 0 < s → e < R.length → lex f (L.getD (s - 1) 0) (R.getD e 0))
    (h2 : 0 < e → s < L.length → lex f (R.getD (e - 1) 0) (L.getD s 0))
    (m1 : SortOf f (L.take s ++ R.take e) M1) (m2 : SortOf f (L.drop s ++ R.drop e) M2) : SortOf f (L ++ R) (M1 ++ M2) := by
  have := sort_halves m1 m2 ?_ ?_ ?_ ?_
  · rwa [List.take_append_drop, List.take_append_drop] at this
  · intro x hx y hy
    obtain ⟨i, hi, hil, rfl⟩ := mem_take_getD hx
    obtain ⟨j, hj, hjl, rfl⟩ := mem_drop_getD hy
    exact lex_mono T.l (by omega) hjl
  · intro x hx y hy
    obtain ⟨i, hi, hil, rfl⟩ := mem_take_getD hx
    obtain ⟨j, hj, hjl, rfl⟩ := mem_drop_getD hy
    have a := h1 (by omega) (by omega)
    have b : i = s - 1 ∨ lex f (L.getD i 0) (L.getD (s - 1) 0) := by
      by_cases e : i = s - 1
      · exact .inl e
      · exact .inr (lex_mono T.l (by omega) (by omega))
    have c : j = e ∨ lex f (R.getD e 0) (R.getD j 0) := by
      by_cases h : j = e
      · exact .inl h
      · exact .inr (lex_mono T.r (by omega) hjl)
    rcases b with rfl | b <;> rcases c with rfl | c
    · exact a
    · exact lex_trans a c
    · exact lex_trans b a
    · exact lex_trans (lex_trans b a) c
  · intro x hx y hy
    obtain ⟨i, hi, hil, rfl⟩ := mem_take_getD hx
    obtain ⟨j, hj, hjl, rfl⟩ := mem_drop_getD hy
    have a := h2 (by omega) (by omega)
    have b : i = e - 1 ∨ lex f (R.getD i 0) (R.getD (e - 1) 0) := by
      by_cases h : i = e - 1
      · exact .inl h
      · exact .inr (lex_mono T.r (by omega) (by omega))
    have c : j = s ∨ lex f (L.getD s 0) (L.getD j 0) := by
      by_cases h : j = s
      · exact .inl h
      · exact .inr (lex_mono T.l (by omega) hjl)
    rcases b with rfl | b <;> rcases c with rfl | c
    · exact a
    · exact lex_trans a c
    · exact lex_trans b a
    · exact lex_trans (lex_trans b a) c
  · intro x hx y hy
    obtain ⟨i, hi, hil, rfl⟩ := mem_take_getD hx
    obtain ⟨j, hj, hjl, rfl⟩ := mem_drop_getD hy
    exact lex_mono T.r (by omega) hjl

theorem Two.take_take {f : Int → Int} {L R : List Int} (T : Two f L R) (s e : Nat) : Two f (L.take s) (R.take e) :=
  ⟨T.l.sublist (List.take_sublist s L), T.r.sublist (List.take_sublist e R), fun x hx y hy => T.lt x (List.mem_of_mem_take hx) y (List.mem_of_mem_take hy)⟩
theorem Two.drop_drop {f : Int → Int} {L R : List Int} (T : Two f L R) (s e : Nat) : Two f (L.drop s) (R.drop e) :=
  ⟨T.l.sublist (List.drop_sublist s L), T.r.sublist (List.drop_sublist e R), fun x hx y hy => T.lt x (List.mem_of_mem_drop hx) y (List.mem_of_mem_drop hy)⟩

theorem SortOf.self {f : Int → Int} {L : List Int} (h : L.Pairwise (lex f)) : SortOf f L L := ⟨h, List.Perm.refl _⟩

/-- of a left and a right one: the key decides, the same keys leave the left one ahead -/
theorem lex_of_not {f : Int → Int} {x y : Int} (h : x < y) (k : ¬ f y < f x) : lex f x y := by unfold lex; omega
theorem lex_of_lt {f : Int → Int} {x y : Int} (k : f y < f x) : lex f y x := .inl k

/-- one number, and a row behind it: it goes in where the first key is that is no less -/
theorem one_left {f : Int → Int} {x : Int} {R : List Int} {i : Nat} (T : Two f [x] R) (hi : i ≤ R.length)
    (h1 : ∀ j, j < i → f (R.getD j 0) < f x) (h2 : ∀ j, i ≤ j → j < R.length → ¬ f (R.getD j 0) < f x) : SortOf f ([x] ++ R) (R.take i ++ x :: R.drop i) := by
  have m1 : SortOf f (List.take 0 [x] ++ R.take i) (R.take i) := by simpa using SortOf.self (T.r.sublist (List.take_sublist i R))
  have m2 : SortOf f (List.drop 0 [x] ++ R.drop i) (x :: R.drop i) := by
    refine SortOf.self (List.pairwise_cons.2 ⟨fun y hy => ?_, T.r.sublist (List.drop_sublist i R)⟩)
    obtain ⟨j, hj, hjl, rfl⟩ := mem_drop_getD hy
    exact lex_of_not (T.lt x (by simp) _ (by rw [List.getD_eq_getElem?_getD, List.getElem?_eq_getElem hjl]; exact List.getElem_mem _)) (h2 j hj hjl)
  exact cut_sorts T (by simp) hi (fun h => by omega) (fun h _ => lex_of_lt (by simpa using h1 (i - 1) (by omega))) m1 m2

/-- a row, and one number behind it: it goes in ahead of the first key that is greater -/
theorem one_right {f : Int → Int} {y : Int} {L : List Int} {i : Nat} (T : Two f L [y]) (hi : i ≤ L.length)
    (h1 : ∀ j, j < i → ¬ f y < f (L.getD j 0)) (h2 : ∀ j, i ≤ j → j < L.length → f y < f (L.getD j 0)) : SortOf f (L ++ [y]) (L.take i ++ y :: L.drop i) := by
  by_cases e : i = L.length
  · subst e
    rw [List.take_length, List.drop_length]
    refine SortOf.self (List.pairwise_append.2 ⟨T.l, by simp, fun x hx z hz => ?_⟩)
    obtain rfl : z = y := by simpa using hz
    obtain ⟨j, hj, hjl, rfl⟩ := mem_take_getD (k := L.length) (by rwa [List.take_length])
    exact lex_of_not (T.lt _ hx _ (by simp)) (h1 j hj)
  · have m1 : SortOf f (L.take i ++ List.take 1 [y]) (L.take i ++ [y]) := by
      refine SortOf.self (List.pairwise_append.2 ⟨T.l.sublist (List.take_sublist i L), by simp, fun x hx z hz => ?_⟩)
      obtain rfl : z = y := by simpa using hz
      obtain ⟨j, hj, hjl, rfl⟩ := mem_take_getD hx
      exact lex_of_not (T.lt _ (List.mem_of_mem_take hx) _ (by simp)) (h1 j hj)
    have m2 : SortOf f (L.drop i ++ List.drop 1 [y]) (L.drop i) := by simpa using SortOf.self (T.l.sublist (List.drop_sublist i L))
    have := cut_sorts T hi (by simp : 1 ≤ [y].length) (fun _ h => by simp at h) (fun _ h => lex_of_lt (by simpa using h2 i (Nat.le_refl _) h)) m1 m2
    simpa using this

end Hw.Sym
