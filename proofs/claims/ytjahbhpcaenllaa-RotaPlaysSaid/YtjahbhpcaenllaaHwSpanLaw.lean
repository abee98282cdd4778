/- Plain law of rows of spans: what the models of And, Sub, Has, bounds, Make come to. -/
import Derived.Test.YtjahbhpcaenllaaHwRotaM
namespace Md
open Go Go.Hw

theorem w64_in {n : Int} (h : -9223372036854775808 ≤ n ∧ n ≤ 9223372036854775807) : w64 n = n := wrap_in h
theorem w64_nat {n : Nat} (h : n < 4611686018427387904) : w64 ((n : Int) + 1) = ((n + 1 : Nat) : Int) := by rw [w64_in (by omega)]; omega
theorem idx_mid {α : Type} (pre : List α) (x : α) (rest : List α) : idx (pre ++ x :: rest) (pre.length : Int) = some x := by
  unfold idx; rw [if_pos (by omega)]; simp
theorem idx_nat {α : Type} (l : List α) (i : Nat) : idx l (i : Int) = l[i]? := by
  unfold idx; rw [if_pos (by omega)]; simp
theorem snoc_eq {α : Type} (pre : List α) (x : α) (rest : List α) : pre ++ x :: rest = (pre ++ [x]) ++ rest := by simp
theorem lt_mid {α : Type} (pre : List α) (x : α) (rest : List α) : decide ((pre.length : Int) < ((pre ++ x :: rest).length : Int)) = true := by simp; omega
theorem lt_end {α : Type} (pre : List α) : decide ((pre.length : Int) < ((pre ++ []).length : Int)) = false := by simp
theorem bif_t {α : Type} (a b : α) : (bif true then a else b) = a := rfl
theorem bif_f {α : Type} (a b : α) : (bif false then a else b) = b := rfl

def inS (s : Span) (n : Int) : Bool := bif decide (s.From ≤ n) then decide (n < s.To) else false
/-- is a number in some span? -/
def memS (l : List Span) (n : Int) : Bool := l.any (inS · n)
theorem memS_iff {l : List Span} {n : Int} : memS l n = true ↔ ∃ s ∈ l, s.From ≤ n ∧ n < s.To := by
  unfold memS inS
  simp only [List.any_eq_true]
  constructor
  · rintro ⟨s, hs, h⟩
    refine ⟨s, hs, ?_⟩
    by_cases h1 : s.From ≤ n <;> simp [h1] at h; exact ⟨h1, h⟩
  · rintro ⟨s, hs, h1, h2⟩
    exact ⟨s, hs, by simp [h1, h2]⟩

theorem has_loop (n : Int) : ∀ (rest pre : List Span) (k : Nat), rest.length < k → (pre ++ rest).length < 4611686018427387904 → ref09_Has_l1 (pre ++ rest) n k (pre.length : Int) = some (memS rest n)
  | _, _, 0, hk, _ => absurd hk (Nat.not_lt_zero _)
  | [], pre, k + 1, _, _ => by
    show ref09_Has_l1_b _ _ _ _ = _
    unfold ref09_Has_l1_b
    rw [lt_end, bif_f]; rfl
  | x :: rest, pre, k + 1, hk, hl => by
    show ref09_Has_l1_b _ _ _ _ = _
    unfold ref09_Has_l1_b
    rw [lt_mid, bif_t, idx_mid, Option.bind_some]
    have ih := has_loop n rest (pre ++ [x]) k (by simp at hk; omega) (by rw [← snoc_eq]; exact hl)
    rw [← snoc_eq, List.length_append, List.length_singleton] at ih
    rw [w64_nat (by simp at hl; omega), ih]
    show (bif inS x n then some true else _) = some (inS x n || memS rest n)
    cases inS x n <;> rfl
theorem has_ref (l : List Span) (n : Int) (h : l.length < 4611686018427387904) : ref09_Has l n = some (memS l n) := has_loop n l [] N0 (by unfold N0; omega) (by simpa using h)

/-! ### Sub, of one span -/
def subS (t s : Span) : List Span :=
  bif bif decide (t.To ≤ s.From) then true else decide (s.To ≤ t.From) then (bif decide (s.From < s.To) then [s] else [])
  else (bif decide (s.From < t.From) then [⟨s.From, t.From⟩] else []) ++ (bif decide (t.To < s.To) then [⟨t.To, s.To⟩] else [])
theorem subS_len (t s : Span) : (subS t s).length ≤ 2 := by
  unfold subS
  cases (bif decide (t.To ≤ s.From) then true else decide (s.To ≤ t.From)) <;> cases decide (s.From < s.To) <;> cases decide (s.From < t.From) <;> cases decide (t.To < s.To) <;> simp
theorem sub_loop (t : Span) : ∀ (rest pre out : List Span) (k : Nat), rest.length < k → (pre ++ rest).length < 1048576000 → out.length + 2 * rest.length ≤ 4294967296 → span_Sub_l1 (pre ++ rest) [t] k out (pre.length : Int) = some (out ++ rest.flatMap (subS t))
  | _, _, _, 0, hk, _, _ => absurd hk (Nat.not_lt_zero _)
  | [], pre, out, k + 1, _, _, _ => by
    show span_Sub_l1_b _ _ _ _ _ = _
    unfold span_Sub_l1_b
    rw [lt_end, bif_f]; simp
  | x :: rest, pre, out, k + 1, hk, hl, ho => by
    show span_Sub_l1_b _ _ _ _ _ = _
    unfold span_Sub_l1_b
    rw [lt_mid, bif_t, idx_mid, Option.bind_some]
    have ih := fun out' (h : out'.length + 2 * rest.length ≤ 4294967296) => sub_loop t rest (pre ++ [x]) out' k (by simp at hk; omega) (by rw [← snoc_eq]; exact hl) h
    rw [← snoc_eq, List.length_append, List.length_singleton] at ih
    have hw := w64_nat (n := pre.length) (by simp at hl; omega)
    have hlen := subS_len t x
    simp only [List.length_cons] at ho
    have h01 : decide ((0 : Int) < (([t] : List Span).length : Int)) = true := rfl
    have h11 : decide (w64 (0 + 1) < (([t] : List Span).length : Int)) = false := by rw [w64_in (by omega)]; rfl
    have fit : ∀ (l : List Span), l.length ≤ 4294967298 → fits l.length := fun l h => by unfold fits; omega
    have hfin : ∀ k' out' i, span_Sub_l2 [t] (pre.length : Int) (span_Sub_l1 (pre ++ x :: rest) [t] k) x (k' + 1) out' i (w64 (0 + 1)) = (bif decide (i < x.To) then (chk (fits (out' ++ ([(Span.mk i x.To)])).length) <| span_Sub_l1 (pre ++ x :: rest) [t] k (out' ++ ([(Span.mk i x.To)])) (w64 ((pre.length : Int) + 1))) else (span_Sub_l1 (pre ++ x :: rest) [t] k out' (w64 ((pre.length : Int) + 1)))) := fun k' out' i => by
      show span_Sub_l2_b _ _ _ _ _ _ _ _ = _
      unfold span_Sub_l2_b
      rw [h11, bif_f]
    obtain ⟨m, hm⟩ : ∃ m, N0 = m + 2 := ⟨4611686018427387902, rfl⟩
    rw [hm]
    show span_Sub_l2_b _ _ _ _ _ _ _ _ = _
    unfold span_Sub_l2_b
    rw [h01, bif_t]
    show (bif bif decide (t.To ≤ x.From) then true else decide (x.To ≤ t.From) then _ else _) = _
    have hs : subS t x = (bif bif decide (t.To ≤ x.From) then true else decide (x.To ≤ t.From) then (bif decide (x.From < x.To) then [x] else [])
      else (bif decide (x.From < t.From) then [⟨x.From, t.From⟩] else []) ++ (bif decide (t.To < x.To) then [⟨t.To, x.To⟩] else [])) := rfl
    rw [List.flatMap_cons, hs]
    cases (bif decide (t.To ≤ x.From) then true else decide (x.To ≤ t.From)) with
    | true =>
      rw [bif_t, bif_t, hfin, hw]
      cases decide (x.From < x.To) with
      | true => rw [bif_t, chk_in (fit _ (by simp; omega)), ih _ (by simp; omega)]; simp
      | false => rw [bif_f, ih _ (by omega)]; simp
    | false =>
      rw [bif_f, bif_f]
      cases decide (x.From < t.From) with
      | true =>
        rw [bif_t, chk_in (fit _ (by simp; omega)), hfin, hw]
        cases decide (t.To < x.To) with
        | true => rw [bif_t, chk_in (fit _ (by simp; omega)), ih _ (by simp; omega)]; simp
        | false => rw [bif_f, ih _ (by simp; omega)]; simp
      | false =>
        rw [bif_f, hfin, hw]
        cases decide (t.To < x.To) with
        | true => rw [bif_t, chk_in (fit _ (by simp; omega)), ih _ (by simp; omega)]; simp
        | false => rw [bif_f, ih _ (by omega)]; simp
theorem sub_eq (a : List Span) (t : Span) (h : a.length < 1048576000) : span_Sub a [t] = some (a.flatMap (subS t)) := by
  have := sub_loop t a [] [] N0 (by unfold N0; omega) (by simpa using h) (by simp; omega)
  unfold span_Sub; simpa using this

/-! ### And -/
def andS : Nat → List Span → List Span → List Span
  | 0, _, _ => []
  | _ + 1, [], _ => []
  | _ + 1, _ :: _, [] => []
  | k + 1, x :: a, y :: b => (bif decide (mx x.From y.From < mn x.To y.To) then [⟨mx x.From y.From, mn x.To y.To⟩] else []) ++ (bif decide (x.To < y.To) then andS k a (y :: b) else andS k (x :: a) b)
theorem and_loop : ∀ (j : Nat) (a b out : List Span) (k : Nat), a.length + b.length < j → j ≤ k → out.length + j ≤ 4294967296 → span_And_l1 k a b out = some (out ++ andS j a b)
  | 0, _, _, _, _, h, _, _ => absurd h (Nat.not_lt_zero _)
  | j + 1, a, b, out, 0, _, h, _ => absurd h (by omega)
  | j + 1, [], b, out, k + 1, _, _, _ => by
    show span_And_l1_b _ _ _ _ = _
    unfold span_And_l1_b
    simp [andS]
  | j + 1, x :: a, [], out, k + 1, _, _, _ => by
    show span_And_l1_b _ _ _ _ = _
    unfold span_And_l1_b
    simp [andS]
  | j + 1, x :: a, y :: b, out, k + 1, h, hk, ho => by
    show span_And_l1_b _ _ _ _ = _
    unfold span_And_l1_b
    have h1 : decide ((0 : Int) < ((x :: a).length : Int)) = true := by simp; try omega
    have h2 : decide ((0 : Int) < ((y :: b).length : Int)) = true := by simp
    have hx : idx (x :: a) 0 = some x := idx_mid [] x a
    have hy : idx (y :: b) 0 = some y := idx_mid [] y b
    rw [h1, h2, bif_t, bif_t, hx, hy, Option.bind_some, Option.bind_some]
    have hi1 : inrle (x :: a).length 1 := ⟨by omega, by simp; omega⟩
    have hi2 : inrle (y :: b).length 1 := ⟨by omega, by simp; omega⟩
    have step : ∀ out', out'.length + j ≤ 4294967296 → span_And_j2 (x :: a) (y :: b) (span_And_l1 k) x y out' = some (out' ++ (bif decide (x.To < y.To) then andS j a (y :: b) else andS j (x :: a) b)) := fun out' ho' => by
      unfold span_And_j2
      rw [chk_in hi1, chk_in hi2]
      simp only [List.length_cons] at h
      cases decide (x.To < y.To) with
      | true => rw [bif_t, bif_t]; exact and_loop j a (y :: b) out' k (by simp; omega) (by omega) ho'
      | false => rw [bif_f, bif_f]; exact and_loop j (x :: a) b out' k (by simp; omega) (by omega) ho'
    unfold andS
    cases decide (mx x.From y.From < mn x.To y.To) with
    | true => rw [bif_t, bif_t, chk_in (by unfold fits; simp; omega), step _ (by simp; omega)]; simp
    | false => rw [bif_f, bif_f, step _ (by omega)]; simp
theorem and_eq (a b : List Span) (h : a.length + b.length < 1048576000) : span_And a b = some (andS (a.length + b.length + 1) a b) := by
  have := and_loop (a.length + b.length + 1) a b [] N0 (by omega) (by unfold N0; omega) (by simp; omega)
  unfold span_And; simpa using this
end Md
