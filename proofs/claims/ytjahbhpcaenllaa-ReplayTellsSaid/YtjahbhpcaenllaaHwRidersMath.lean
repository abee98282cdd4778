namespace Hw.Riders

def lex (f : Int → Int) (x y : Int) : Prop := f x < f y ∨ (f x = f y ∧ x < y)

/-- where the law's inner loop stops: from k down, past all whose key is greater than t -/
def scan (f : Int → Int) (t : Int) (out : List Int) : Nat → Nat
  | 0 => 0
  | k + 1 => if f (out.getD k 0) > t then scan f t out k else k + 1

theorem scan_le (f : Int → Int) (t : Int) (out : List Int) : ∀ k, scan f t out k ≤ k
  | 0 => Nat.le_refl _
  | k + 1 => by unfold scan; split; exact Nat.le_succ_of_le (scan_le f t out k); exact Nat.le_refl _

theorem scan_above (f : Int → Int) (t : Int) (out : List Int) : ∀ k j, scan f t out k ≤ j → j < k → f (out.getD j 0) > t
  | 0, j, _, h => by omega
  | k + 1, j, h1, h2 => by
    unfold scan at h1
    split at h1
    · rename_i h
      by_cases e : j = k
      · subst e; exact h
      · exact scan_above f t out k j h1 (by omega)
    · omega

theorem scan_at (f : Int → Int) (t : Int) (out : List Int) : ∀ k, 0 < scan f t out k → f (out.getD (scan f t out k - 1) 0) ≤ t
  | 0, h => by simp [scan] at h
  | k + 1, h => by
    unfold scan at h ⊢
    split
    · rename_i h'; rw [if_pos h'] at h; exact scan_at f t out k h
    · rename_i h'; rw [Nat.add_sub_cancel]; omega

def ins (f : Int → Int) (out : List Int) (i : Int) : List Int :=
  out.take (scan f (f i) out out.length) ++ i :: out.drop (scan f (f i) out out.length)

theorem ins_perm (f : Int → Int) (out : List Int) (i : Int) : (ins f out i).Perm (i :: out) := by
  unfold ins
  exact (List.perm_middle).trans (by rw [List.take_append_drop])

theorem ins_sorted (f : Int → Int) (out : List Int) (i : Int) (h : out.Pairwise (lex f)) (hi : ∀ x ∈ out, x < i) : (ins f out i).Pairwise (lex f) := by
  unfold ins
  have hle := scan_le f (f i) out out.length
  generalize hk : scan f (f i) out out.length = k at hle
  have hs := h
  rw [← List.take_append_drop k out] at hs
  obtain ⟨h1, h2, h3⟩ := List.pairwise_append.1 hs
  refine List.pairwise_append.2 ⟨h1, List.pairwise_cons.2 ⟨?_, h2⟩, ?_⟩
  · intro y hy
    obtain ⟨j, hj, rfl⟩ := List.getElem_of_mem hy
    simp only [List.length_drop] at hj
    have := scan_above f (f i) out out.length (k + j) (by omega) (by omega)
    rw [List.getD_eq_getElem?_getD, List.getElem?_eq_getElem (by omega), Option.getD_some] at this
    left
    simp only [List.getElem_drop]
    omega
  · intro x hx y hy
    rcases List.mem_cons.1 hy with rfl | hy
    · -- x in the head, y = i
      obtain ⟨j, hj, rfl⟩ := List.getElem_of_mem hx
      simp only [List.length_take] at hj
      have hpos : 0 < k := by omega
      have hat := scan_at f (f y) out out.length (by omega)
      rw [hk, List.getD_eq_getElem?_getD, List.getElem?_eq_getElem (by omega), Option.getD_some] at hat
      have hlt := hi _ (List.getElem_mem (by omega : j < out.length))
      have hle' : f out[j] ≤ f out[k - 1] := by
        by_cases e : j = k - 1
        · subst e; exact Int.le_refl _
        · have := List.pairwise_iff_getElem.1 h j (k - 1) (by omega) (by omega) (by omega)
          unfold lex at this; omega
      simp only [List.getElem_take]
      unfold lex
      omega
    · exact h3 x hx y hy

/-- all rows that go in: one behind the other -/
def insAll (f : Int → Int) (l : List Int) : List Int := l.foldl (ins f) []

theorem insAll_spec (f : Int → Int) (l : List Int) (h : l.Pairwise (· < ·)) : (insAll f l).Pairwise (lex f) ∧ (insAll f l).Perm l := by
  have key : ∀ (l pre : List Int) (acc : List Int), (pre ++ l).Pairwise (· < ·) → acc.Pairwise (lex f) → acc.Perm pre →
      (l.foldl (ins f) acc).Pairwise (lex f) ∧ (l.foldl (ins f) acc).Perm (pre ++ l) := by
    intro l
    induction l with
    | nil => intro pre acc _ h1 h2; simpa using ⟨h1, h2⟩
    | cons x l ih =>
      intro pre acc hp h1 h2
      have hx : ∀ y ∈ acc, y < x := fun y hy => (List.pairwise_append.1 hp).2.2 y (h2.subset hy) x (by simp)
      have := ih (pre ++ [x]) (ins f acc x) (by simpa using hp) (ins_sorted f acc x h1 hx)
        ((ins_perm f acc x).trans ((h2.cons x).trans (List.perm_append_comm (l₁ := [x]) (l₂ := pre))))
      simpa using this
  have := key l [] [] (by simpa using h) List.Pairwise.nil (List.Perm.refl _)
  simpa only [insAll, List.nil_append] using this

end Hw.Riders
