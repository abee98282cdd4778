/- Rows of spans: right ones are told by the numbers that they have. -/
import Derived.Test.YtjahbhpcaenllaaHwSpanLaw
namespace Md
open Go Go.Hw

/-- each span is something, each begins behind the end of the one ahead -/
def Rt (l : List Span) : Prop := l.Pairwise (fun s t => s.To < t.From) ∧ ∀ s ∈ l, s.From < s.To
theorem Rt.nil : Rt [] := ⟨List.Pairwise.nil, fun _ h => by cases h⟩
theorem Rt.tail {s : Span} {l : List Span} (h : Rt (s :: l)) : Rt l := ⟨(List.pairwise_cons.1 h.1).2, fun x hx => h.2 x (List.mem_cons_of_mem _ hx)⟩
theorem Rt.head {s : Span} {l : List Span} (h : Rt (s :: l)) : s.From < s.To ∧ ∀ t ∈ l, s.To < t.From := ⟨h.2 s List.mem_cons_self, (List.pairwise_cons.1 h.1).1⟩
theorem memS_nil (n : Int) : memS [] n = false := rfl
theorem memS_cons {s : Span} {l : List Span} {n : Int} : memS (s :: l) n = true ↔ (s.From ≤ n ∧ n < s.To) ∨ memS l n = true := by
  simp only [memS_iff, List.mem_cons]
  constructor
  · rintro ⟨t, rfl | h, h1⟩
    · exact .inl h1
    · exact .inr ⟨t, h, h1⟩
  · rintro (h | ⟨t, h, h1⟩)
    · exact ⟨s, .inl rfl, h⟩
    · exact ⟨t, .inr h, h1⟩
theorem Rt.mem_tail {s : Span} {l : List Span} (h : Rt (s :: l)) {n : Int} (hn : memS l n = true) : s.To < n := by
  obtain ⟨t, ht, h1, _⟩ := memS_iff.1 hn
  have := h.head.2 t ht
  omega
theorem right_ext : ∀ {a b : List Span}, Rt a → Rt b → (∀ n, memS a n = true ↔ memS b n = true) → a = b
  | [], [], _, _, _ => rfl
  | [], t :: b, _, hb, h => by
    have := (h t.From).2 (memS_cons.2 (.inl ⟨Int.le_refl _, hb.head.1⟩))
    simp [memS] at this
  | s :: a, [], ha, _, h => by
    have := (h s.From).1 (memS_cons.2 (.inl ⟨Int.le_refl _, ha.head.1⟩))
    simp [memS] at this
  | s :: a, t :: b, ha, hb, h => by
    have h1 := ha.head.1
    have h2 := hb.head.1
    have hF : s.From = t.From := by
      have e1 := (h s.From).1 (memS_cons.2 (.inl ⟨Int.le_refl _, h1⟩))
      have e2 := (h t.From).2 (memS_cons.2 (.inl ⟨Int.le_refl _, h2⟩))
      rcases memS_cons.1 e1 with e1 | e1 <;> rcases memS_cons.1 e2 with e2 | e2
      · omega
      · have := ha.mem_tail e2; omega
      · have := hb.mem_tail e1; omega
      · have := ha.mem_tail e2; have := hb.mem_tail e1; omega
    have hT : s.To = t.To := by
      have e1 : ¬ memS (s :: a) s.To = true := fun e => by
        rcases memS_cons.1 e with e | e
        · omega
        · have := ha.mem_tail e; omega
      have e2 : ¬ memS (t :: b) t.To = true := fun e => by
        rcases memS_cons.1 e with e | e
        · omega
        · have := hb.mem_tail e; omega
      rcases Int.lt_trichotomy s.To t.To with hl | hl | hl
      · exact absurd ((h s.To).2 (memS_cons.2 (.inl ⟨by omega, hl⟩))) e1
      · exact hl
      · exact absurd ((h t.To).1 (memS_cons.2 (.inl ⟨by omega, hl⟩))) e2
    have hst : s = t := (Span.eq_ s t).2 ⟨hF, hT⟩
    subst hst
    congr 1
    refine right_ext ha.tail hb.tail fun n => ⟨fun hn => ?_, fun hn => ?_⟩
    · rcases memS_cons.1 ((h n).1 (memS_cons.2 (.inr hn))) with e | e
      · have := ha.mem_tail hn; omega
      · exact e
    · rcases memS_cons.1 ((h n).2 (memS_cons.2 (.inr hn))) with e | e
      · have := hb.mem_tail hn; omega
      · exact e
theorem memS_append {a b : List Span} {n : Int} : memS (a ++ b) n = true ↔ memS a n = true ∨ memS b n = true := by
  simp [memS, List.any_append]

/-! ### Sub keeps rows right -/
theorem subS_mem (t s : Span) (n : Int) (hs : s.From < s.To) (ht : t.From < t.To) : memS (subS t s) n = true ↔ (s.From ≤ n ∧ n < s.To) ∧ ¬ (t.From ≤ n ∧ n < t.To) := by
  unfold subS
  by_cases h1 : t.To ≤ s.From <;> by_cases h2 : s.To ≤ t.From <;> by_cases h3 : s.From < t.From <;> by_cases h4 : t.To < s.To <;>
    simp [h1, h2, h3, h4, hs, memS_cons, memS_nil] <;> omega
theorem subS_in (t s x : Span) (hs : s.From < s.To) (h : x ∈ subS t s) : s.From ≤ x.From ∧ x.From < x.To ∧ x.To ≤ s.To := by
  unfold subS at h
  by_cases h1 : t.To ≤ s.From <;> by_cases h2 : s.To ≤ t.From <;> by_cases h3 : s.From < t.From <;> by_cases h4 : t.To < s.To <;>
    simp [h1, h2, h3, h4, hs] at h <;> (first | subst h | (rcases h with h | h <;> subst h)) <;> simp <;> omega
theorem subS_right (t s : Span) (hs : s.From < s.To) (ht : t.From < t.To) : Rt (subS t s) := by
  unfold subS Rt
  by_cases h1 : t.To ≤ s.From <;> by_cases h2 : s.To ≤ t.From <;> by_cases h3 : s.From < t.From <;> by_cases h4 : t.To < s.To <;>
    simp [h1, h2, h3, h4, hs] <;> omega
theorem sub_right (t : Span) (ht : t.From < t.To) : ∀ {l : List Span}, Rt l → Rt (l.flatMap (subS t)) ∧ ∀ n, memS (l.flatMap (subS t)) n = true ↔ memS l n = true ∧ ¬ (t.From ≤ n ∧ n < t.To)
  | [], _ => ⟨Rt.nil, fun n => by simp [memS]⟩
  | s :: l, h => by
    obtain ⟨h1, h2⟩ := sub_right t ht h.tail
    have hs := h.head.1
    have hr := subS_right t s hs ht
    refine ⟨⟨?_, fun x hx => ?_⟩, fun n => ?_⟩
    · rw [List.flatMap_cons]
      refine List.pairwise_append.2 ⟨hr.1, h1.1, fun x hx y hy => ?_⟩
      obtain ⟨z, hz, hy⟩ := List.mem_flatMap.1 hy
      have a1 := subS_in t s x hs hx
      have a2 := subS_in t z y (h.tail.2 z hz) hy
      have a3 := h.head.2 z hz
      omega
    · rw [List.flatMap_cons] at hx
      rcases List.mem_append.1 hx with hx | hx
      · exact hr.2 x hx
      · exact h1.2 x hx
    · rw [List.flatMap_cons, memS_append, subS_mem t s n hs ht, h2 n, memS_cons]
      constructor
      · rintro (⟨h, h'⟩ | ⟨h, h'⟩)
        · exact ⟨.inl h, h'⟩
        · exact ⟨.inr h, h'⟩
      · rintro ⟨h | h, h'⟩
        · exact .inl ⟨h, h'⟩
        · exact .inr ⟨h, h'⟩
theorem sub_len (t : Span) : ∀ (l : List Span), (l.flatMap (subS t)).length ≤ 2 * l.length
  | [] => by simp
  | s :: l => by
    have := sub_len t l
    have := subS_len t s
    rw [List.flatMap_cons, List.length_append, List.length_cons]; omega

/-! ### And keeps rows right -/
theorem mx_le {a b c : Int} : mx a b ≤ c ↔ a ≤ c ∧ b ≤ c := by unfold mx; split <;> omega
theorem lt_mn {a b c : Int} : c < mn a b ↔ c < a ∧ c < b := by unfold mn; split <;> omega
theorem andS_spec : ∀ (k : Nat) {a b : List Span}, a.length + b.length < k → Rt a → Rt b →
    Rt (andS k a b) ∧ (∀ n, memS (andS k a b) n = true ↔ memS a n = true ∧ memS b n = true) ∧ (andS k a b).length ≤ a.length + b.length ∧
    (∀ z ∈ andS k a b, ∃ x ∈ a, ∃ y ∈ b, x.From ≤ z.From ∧ y.From ≤ z.From)
  | 0, _, _, h, _, _ => absurd h (Nat.not_lt_zero _)
  | k + 1, [], b, _, _, _ => ⟨Rt.nil, fun n => by simp [andS, memS], by simp [andS], fun z hz => by simp [andS] at hz⟩
  | k + 1, x :: a, [], _, _, _ => ⟨Rt.nil, fun n => by simp [andS, memS], by simp [andS], fun z hz => by simp [andS] at hz⟩
  | k + 1, x :: a, y :: b, h, ha, hb => by
    have hx := ha.head
    have hy := hb.head
    unfold andS
    by_cases hc : x.To < y.To
    · obtain ⟨i1, i2, i3, i4⟩ := andS_spec k (a := a) (b := y :: b) (by simp at h ⊢; omega) ha.tail hb
      simp only [hc, decide_true, bif_t]
      have hsep : ∀ z ∈ andS k a (y :: b), mn x.To y.To < z.From := fun z hz => by
        obtain ⟨p, hp, _, _, h1, _⟩ := i4 z hz
        have := hx.2 p hp
        unfold mn; split <;> omega
      refine ⟨?_, fun n => ?_, ?_, fun z hz => ?_⟩
      · by_cases hm : mx x.From y.From < mn x.To y.To
        · simp only [hm, decide_true, bif_t]
          exact ⟨List.pairwise_cons.2 ⟨hsep, i1.1⟩, fun s hs => by
            rcases List.mem_cons.1 hs with hs | hs
            · subst hs; exact hm
            · exact i1.2 s hs⟩
        · simp only [hm, decide_false, bif_f, List.nil_append]; exact i1
      · rw [memS_append, i2 n, memS_cons, memS_cons]
        have hone : memS (bif decide (mx x.From y.From < mn x.To y.To) then [⟨mx x.From y.From, mn x.To y.To⟩] else []) n = true ↔ (x.From ≤ n ∧ n < x.To) ∧ (y.From ≤ n ∧ n < y.To) := by
          by_cases hm : mx x.From y.From < mn x.To y.To
          · simp only [hm, decide_true, bif_t, memS_cons, mx_le, lt_mn]
            simp [memS]; omega
          · simp only [hm, decide_false, bif_f]
            simp only [memS, List.any_nil, Bool.false_eq_true, false_iff]
            rintro ⟨h1, h2⟩
            have e1 : mx x.From y.From ≤ n := mx_le.2 ⟨h1.1, h2.1⟩
            have e2 : n < mn x.To y.To := lt_mn.2 ⟨h1.2, h2.2⟩
            omega
        rw [hone]
        constructor
        · rintro (⟨h1, h2⟩ | ⟨h1, h2 | h2⟩)
          · exact ⟨.inl h1, .inl h2⟩
          · exact ⟨.inr h1, .inl h2⟩
          · exact ⟨.inr h1, .inr h2⟩
        · rintro ⟨h1 | h1, h2 | h2⟩
          · exact .inl ⟨h1, h2⟩
          · have := hb.mem_tail h2; omega
          · exact .inr ⟨h1, .inl h2⟩
          · exact .inr ⟨h1, .inr h2⟩
      · rw [List.length_append]
        have : (bif decide (mx x.From y.From < mn x.To y.To) then [(⟨mx x.From y.From, mn x.To y.To⟩ : Span)] else []).length ≤ 1 := by cases decide (mx x.From y.From < mn x.To y.To) <;> simp
        simp only [List.length_cons] at i3 ⊢; omega
      · rcases List.mem_append.1 hz with hz | hz
        · by_cases hm : mx x.From y.From < mn x.To y.To
          · simp [hm] at hz; subst hz
            have := mx_le.1 (Int.le_refl (mx x.From y.From))
            exact ⟨x, List.mem_cons_self, y, List.mem_cons_self, this.1, this.2⟩
          · simp [hm] at hz
        · obtain ⟨p, hp, q, hq, h1⟩ := i4 z hz
          exact ⟨p, List.mem_cons_of_mem _ hp, q, hq, h1⟩
    · obtain ⟨i1, i2, i3, i4⟩ := andS_spec k (a := x :: a) (b := b) (by simp at h ⊢; omega) ha hb.tail
      simp only [hc, decide_false, bif_f]
      have hsep : ∀ z ∈ andS k (x :: a) b, mn x.To y.To < z.From := fun z hz => by
        obtain ⟨_, _, q, hq, _, h1⟩ := i4 z hz
        have := hy.2 q hq
        unfold mn; split <;> omega
      refine ⟨?_, fun n => ?_, ?_, fun z hz => ?_⟩
      · by_cases hm : mx x.From y.From < mn x.To y.To
        · simp only [hm, decide_true, bif_t]
          exact ⟨List.pairwise_cons.2 ⟨hsep, i1.1⟩, fun s hs => by
            rcases List.mem_cons.1 hs with hs | hs
            · subst hs; exact hm
            · exact i1.2 s hs⟩
        · simp only [hm, decide_false, bif_f, List.nil_append]; exact i1
      · rw [memS_append, i2 n, memS_cons, memS_cons]
        have hone : memS (bif decide (mx x.From y.From < mn x.To y.To) then [⟨mx x.From y.From, mn x.To y.To⟩] else []) n = true ↔ (x.From ≤ n ∧ n < x.To) ∧ (y.From ≤ n ∧ n < y.To) := by
          by_cases hm : mx x.From y.From < mn x.To y.To
          · simp only [hm, decide_true, bif_t, memS_cons, mx_le, lt_mn]
            simp [memS]; omega
          · simp only [hm, decide_false, bif_f]
            simp only [memS, List.any_nil, Bool.false_eq_true, false_iff]
            rintro ⟨h1, h2⟩
            have e1 : mx x.From y.From ≤ n := mx_le.2 ⟨h1.1, h2.1⟩
            have e2 : n < mn x.To y.To := lt_mn.2 ⟨h1.2, h2.2⟩
            omega
        rw [hone]
        constructor
        · rintro (⟨h1, h2⟩ | ⟨h1 | h1, h2⟩)
          · exact ⟨.inl h1, .inl h2⟩
          · exact ⟨.inl h1, .inr h2⟩
          · exact ⟨.inr h1, .inr h2⟩
        · rintro ⟨h1 | h1, h2 | h2⟩
          · exact .inl ⟨h1, h2⟩
          · exact .inr ⟨.inl h1, h2⟩
          · have := ha.mem_tail h1; omega
          · exact .inr ⟨.inr h1, h2⟩
      · rw [List.length_append]
        have : (bif decide (mx x.From y.From < mn x.To y.To) then [(⟨mx x.From y.From, mn x.To y.To⟩ : Span)] else []).length ≤ 1 := by cases decide (mx x.From y.From < mn x.To y.To) <;> simp
        simp only [List.length_cons] at i3 ⊢; omega
      · rcases List.mem_append.1 hz with hz | hz
        · by_cases hm : mx x.From y.From < mn x.To y.To
          · simp [hm] at hz; subst hz
            have := mx_le.1 (Int.le_refl (mx x.From y.From))
            exact ⟨x, List.mem_cons_self, y, List.mem_cons_self, this.1, this.2⟩
          · simp [hm] at hz
        · obtain ⟨p, hp, q, hq, h1⟩ := i4 z hz
          exact ⟨p, hp, q, List.mem_cons_of_mem _ hq, h1⟩
end Md
