/- The document's rows of spans: bounds, and what is between them. -/
import Derived.Test.YtjahbhpcaenllaaHwSpanMath
namespace Md
open Go Go.Hw

/-! ### bounds -/
def insU (x : Int) : List Int → List Int
  | [] => [x]
  | y :: l => bif decide (y < x) then y :: insU x l else bif decide (y = x) then y :: l else x :: y :: l
theorem insU_len (x : Int) : ∀ l, (insU x l).length ≤ l.length + 1
  | [] => by simp [insU]
  | y :: l => by
    have := insU_len x l
    unfold insU
    cases decide (y < x) <;> cases decide (y = x) <;> simp <;> omega
theorem insU_mem (x z : Int) : ∀ l, z ∈ insU x l ↔ z = x ∨ z ∈ l
  | [] => by simp [insU]
  | y :: l => by
    have := insU_mem x z l
    unfold insU
    by_cases h1 : y < x
    · simp only [h1, decide_true, bif_t, List.mem_cons, this]
      constructor
      · rintro (h | h | h) <;> simp [h]
      · rintro (h | h | h) <;> simp [h]
    · by_cases h2 : y = x
      · subst h2
        simp
      · simp [h1, h2]
theorem insU_sorted (x : Int) : ∀ {l : List Int}, l.Pairwise (· < ·) → (insU x l).Pairwise (· < ·)
  | [], _ => by simp [insU]
  | y :: l, h => by
    have h' := List.pairwise_cons.1 h
    have ih := insU_sorted x h'.2
    unfold insU
    by_cases h1 : y < x
    · simp only [h1, decide_true, bif_t]
      refine List.pairwise_cons.2 ⟨fun z hz => ?_, ih⟩
      rcases (insU_mem x z l).1 hz with hz | hz
      · omega
      · exact h'.1 z hz
    · by_cases h2 : y = x
      · simpa [h1, h2] using (by rw [← h2]; exact h : (x :: l).Pairwise (· < ·))
      · simp only [h1, h2, decide_false, bif_f]
        refine List.pairwise_cons.2 ⟨fun z hz => ?_, h⟩
        rcases List.mem_cons.1 hz with hz | hz
        · omega
        · have := h'.1 z hz; omega

theorem bounds_l3 (x i : Int) (rec : List Int → Int → Option (List Int)) : ∀ (rest pre : List Int) (k : Nat), rest.length < k → (pre ++ rest).length < 1048576000 → (∀ z ∈ pre, z < x) →
    ref09_bounds_l3 (pre ++ rest) i rec x k (pre.length : Int) = rec (pre ++ insU x rest) (w64 (i + 1))
  | _, _, 0, h, _, _ => absurd h (Nat.not_lt_zero _)
  | [], pre, k + 1, _, hl, _ => by
    show ref09_bounds_l3_b _ _ _ _ _ _ = _
    unfold ref09_bounds_l3_b
    have hi : inrle (pre ++ []).length (pre.length : Int) := ⟨by omega, by simp⟩
    have hn : ∀ (l : List Int), l.length ≤ 2 * (pre ++ ([] : List Int)).length + 1 → fits l.length := fun l h => by unfold fits; omega
    rw [lt_end]
    simp only [gI, show (false == true) = false from rfl, cond_false, Option.bind_some]
    rw [chk_in hi, chk_in (hn _ (by simp; omega)), chk_in (hn _ (by simp; omega)), chk_in hi, chk_in (hn _ (by simp; omega))]
    simp [insU]
  | y :: rest, pre, k + 1, hk, hl, hp => by
    show ref09_bounds_l3_b _ _ _ _ _ _ = _
    unfold ref09_bounds_l3_b
    rw [lt_mid, idx_mid]
    show (bif decide (y < x) then _ else bif decide (y = x) then _ else _) = _
    have hi : inrle (pre ++ y :: rest).length (pre.length : Int) := ⟨by omega, by simp; omega⟩
    have hn : ∀ (l : List Int), l.length ≤ 2 * (pre ++ (y :: rest)).length + 1 → fits l.length := fun l h => by unfold fits; omega
    by_cases h1 : y < x
    · have ih := bounds_l3 x i rec rest (pre ++ [y]) k (by simp at hk; omega) (by rw [← snoc_eq]; exact hl) (fun z hz => by
        rcases List.mem_append.1 hz with hz | hz
        · exact hp z hz
        · simp at hz; omega)
      rw [← snoc_eq, List.length_append, List.length_singleton] at ih
      rw [decide_eq_true h1, bif_t, w64_nat (by simp at hl; omega), ih]
      simp [insU, h1]
    · rw [decide_eq_false h1, bif_f]
      by_cases h2 : y = x
      · rw [decide_eq_true h2, bif_t]
        simp [insU, h2]
      · rw [decide_eq_false h2, bif_f, chk_in hi, chk_in (hn _ (by simp; omega)), chk_in (hn _ (by simp; omega)), chk_in hi, chk_in (hn _ (by simp; omega))]
        simp [insU, h1, h2]

def flatB (l : List Span) : List Int := l.flatMap fun s => [s.From, s.To]
theorem flatB_len (l : List Span) : (flatB l).length = 2 * l.length := by
  induction l with
  | nil => rfl
  | cons s l ih => show (s.From :: s.To :: flatB l).length = _; simp only [List.length_cons, ih]; omega
theorem flatB_mem {l : List Span} {z : Int} : z ∈ flatB l ↔ ∃ s ∈ l, z = s.From ∨ z = s.To := by
  unfold flatB
  simp [List.mem_flatMap]
theorem flatB_get : ∀ (l : List Span) (i : Nat) (s : Span), l[i / 2]? = some s → (flatB l)[i]? = some (if i % 2 = 1 then s.To else s.From)
  | [], i, s, h => by simp at h
  | t :: l, 0, s, h => by simp at h; subst h; rfl
  | t :: l, 1, s, h => by simp at h; subst h; rfl
  | t :: l, i + 2, s, h => by
    have h1 : (i + 2) / 2 = i / 2 + 1 := by omega
    rw [h1] at h
    have ih := flatB_get l i s (by simpa using h)
    have h2 : (i + 2) % 2 = i % 2 := by omega
    rw [h2]
    show (t.From :: t.To :: flatB l)[i + 2]? = _
    simpa using ih

theorem bounds_loop (l : List Span) (p0 p1 : List Span) (hp : ([] : List Span) ++ p0 ++ p1 = l) (hl : l.length < 104857600) : ∀ (m : Nat) (i : Nat) (out : List Int) (k : Nat), 2 * l.length - i = m → m < k → out.length ≤ i → i ≤ 2 * l.length →
    ref09_bounds_l1 p0 p1 k out (i : Int) = some (((flatB l).drop i).foldl (fun o x => insU x o) out)
  | m, i, out, 0, _, h, _, _ => absurd h (Nat.not_lt_zero _)
  | m, i, out, k + 1, hm, hk, ho, hi => by
    show ref09_bounds_l1_b _ _ _ _ _ = _
    unfold ref09_bounds_l1_b
    rw [hp]
    have hw : w64 (2 * (l.length : Int)) = ((2 * l.length : Nat) : Int) := by rw [w64_in (by omega)]; omega
    rw [hw]
    rcases Nat.lt_or_ge i (2 * l.length) with h | h
    · have hd : w64 (Int.tdiv (i : Int) 2) = ((i / 2 : Nat) : Int) := by
        have : Int.tdiv (i : Int) 2 = ((i / 2 : Nat) : Int) := rfl
        rw [this, w64_in (by omega)]
      have hlt : i / 2 < l.length := by omega
      have hget : l[i / 2]? = some l[i / 2] := List.getElem?_eq_getElem hlt
      have hfl : i < (flatB l).length := by rw [flatB_len]; exact h
      have hfi : (flatB l)[i] = if i % 2 = 1 then l[i / 2].To else l[i / 2].From := by
        have := flatB_get l i _ hget
        rw [List.getElem?_eq_getElem hfl] at this
        exact Option.some.inj this
      have hmod : Int.tmod (i : Int) 2 = ((i % 2 : Nat) : Int) := rfl
      rw [decide_eq_true (by omega : (i : Int) < ((2 * l.length : Nat) : Int)), bif_t, hd, idx_nat, hget, Option.bind_some, hmod]
      have ins : ∀ x, ref09_bounds_j2 out (i : Int) (ref09_bounds_l1 p0 p1 k) x = ref09_bounds_l1 p0 p1 k (insU x out) ((i + 1 : Nat) : Int) := fun x => by
        unfold ref09_bounds_j2
        have := bounds_l3 x (i : Int) (ref09_bounds_l1 p0 p1 k) out [] N0 (by unfold N0; omega) (by simp; omega) (fun z hz => by cases hz)
        rw [w64_nat (by omega)] at this
        simpa using this
      have fin : ∀ x, x = (flatB l)[i] → ref09_bounds_j2 out (i : Int) (ref09_bounds_l1 p0 p1 k) x = some (((flatB l).drop i).foldl (fun o x => insU x o) out) := fun x hx => by
        rw [ins, bounds_loop l p0 p1 hp hl (m - 1) (i + 1) (insU x out) k (by omega) (by omega) (by have := insU_len x out; omega) (by omega), List.drop_eq_getElem_cons hfl, List.foldl_cons, hx]
      by_cases h1 : i % 2 = 1
      · rw [if_pos h1] at hfi
        rw [decide_eq_true (by omega : ((i % 2 : Nat) : Int) = 1), bif_t]
        exact fin _ hfi.symm
      · rw [if_neg h1] at hfi
        rw [decide_eq_false (by omega : ¬ ((i % 2 : Nat) : Int) = 1), bif_f]
        exact fin _ hfi.symm
    · rw [decide_eq_false (by omega : ¬ (i : Int) < ((2 * l.length : Nat) : Int)), bif_f, List.drop_of_length_le (by rw [flatB_len]; exact h)]
      rfl
def bnds (l : List Span) : List Int := (flatB l).foldl (fun o x => insU x o) []
theorem bounds_eq (a b : List Span) (h : a.length + b.length < 104857600) : ref09_bounds a b = some (bnds (a ++ b)) := by
  unfold ref09_bounds
  have := bounds_loop (a ++ b) a b (by simp) (by simpa using h) (2 * (a ++ b).length) 0 [] N0 (by omega) (by unfold N0; simp; omega) (by simp) (by omega)
  have hf : fits (([] : List Span) ++ a).length := by unfold fits; simp; omega
  have hf2 : fits ((([] : List Span) ++ a) ++ b).length := by unfold fits; simp; omega
  simp only [chk_in hf, chk_in hf2]
  simpa [bnds] using this
theorem foldl_ins : ∀ (l o : List Int), o.Pairwise (· < ·) → (l.foldl (fun o x => insU x o) o).Pairwise (· < ·) ∧ (∀ z, z ∈ l.foldl (fun o x => insU x o) o ↔ z ∈ l ∨ z ∈ o) ∧ (l.foldl (fun o x => insU x o) o).length ≤ l.length + o.length
  | [], o, h => ⟨h, fun z => by simp, by simp⟩
  | x :: l, o, h => by
    obtain ⟨h1, h2, h3⟩ := foldl_ins l (insU x o) (insU_sorted x h)
    refine ⟨h1, fun z => ?_, ?_⟩
    · rw [List.foldl_cons, h2 z, insU_mem, List.mem_cons]
      constructor
      · rintro (h | h | h) <;> simp [h]
      · rintro ((h | h) | h) <;> simp [h]
    · have := insU_len x o
      rw [List.foldl_cons, List.length_cons]; omega
theorem bnds_spec (l : List Span) : (bnds l).Pairwise (· < ·) ∧ (∀ z, z ∈ bnds l ↔ ∃ s ∈ l, z = s.From ∨ z = s.To) ∧ (bnds l).length ≤ 2 * l.length := by
  obtain ⟨h1, h2, h3⟩ := foldl_ins (flatB l) [] List.Pairwise.nil
  refine ⟨h1, fun z => ?_, ?_⟩
  · rw [← flatB_mem]; exact (h2 z).trans (by simp)
  · rw [← flatB_len]; exact Nat.le_trans h3 (by simp)
end Md
