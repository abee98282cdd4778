/- The document's rows of spans: Make has just the numbers that it is to have, and is right. -/
import Derived.Test.YtjahbhpcaenllaaHwSpanMake
namespace Md
open Go Go.Hw

/-- one more piece between two bounds -/
def ext (out : List Span) (x y : Int) : List Span := match out.getLast? with
  | none => [⟨x, y⟩]
  | some s => if s.To = x then out.dropLast ++ [⟨s.From, y⟩] else out ++ [⟨x, y⟩]
theorem ext_snoc (i : List Span) (s : Span) (x y : Int) : ext (i ++ [s]) x y = if s.To = x then i ++ [⟨s.From, y⟩] else i ++ [s] ++ [⟨x, y⟩] := by
  unfold ext; simp
theorem ext_nil (x y : Int) : ext [] x y = [⟨x, y⟩] := rfl
theorem ext_len (out : List Span) (x y : Int) : (ext out x y).length ≤ out.length + 1 := by
  rcases List.eq_nil_or_concat out with h | ⟨i, s, h⟩
  · subst h; simp [ext_nil]
  · rw [List.concat_eq_append] at h; subst h; rw [ext_snoc]; split <;> simp
def makeS (c : Int → Bool) : List Int → List Span → List Span
  | x :: y :: rest, out => makeS c (y :: rest) (bif c x then ext out x y else out)
  | [_], out => out
  | [], out => out

/-- the test of a kind -/
def cnd (a b : List Span) (kind x : Int) : Bool :=
  let p := bif decide (kind = 1) then (bif memS a x then memS b x else false) else memS a x
  bif decide (kind = 2) then (bif p then !memS b x else false) else p

theorem make_j3 (bs : List Int) (rec : List Span → Int → Option (List Span)) (out : List Span) (pre rest : List Int) (x y : Int) (hb : bs = pre ++ x :: y :: rest) (hl : bs.length < 1048576000) (ho : out.length < 1048576000) (b : Bool) :
    ref09_Make_j3 bs out (pre.length : Int) rec x b = rec (bif b then ext out x y else out) (w64 ((pre.length : Int) + 1)) := by
  unfold ref09_Make_j3
  have hlen : pre.length + 1 < 4611686018427387904 := by rw [hb] at hl; simp at hl; omega
  have hy : idx bs (w64 ((pre.length : Int) + 1)) = some y := by
    rw [w64_nat (by omega), hb, snoc_eq]
    have := idx_mid (pre ++ [x]) y rest
    simpa using this
  have hf : ∀ z, fits (out ++ [(z : Span)]).length := fun z => by unfold fits; simp; omega
  cases b with
  | false => rfl
  | true =>
    rw [hy]
    simp only [Bool.not_true, cond_false, cond_true, Option.bind_some, chk_in (hf _)]
    rcases List.eq_nil_or_concat out with h | ⟨i, s, h⟩
    · subst h
      simp [gI, ext_nil]
    · rw [List.concat_eq_append] at h
      subst h
      have hp : decide ((0 : Int) < ((i ++ [s]).length : Int)) = true := by simp; try omega
      have hw : w64 (((i ++ [s]).length : Int) - 1) = (i.length : Int) := by rw [w64_in (by simp at ho ⊢; omega)]; simp
      have hi : idx (i ++ [s]) (i.length : Int) = some s := idx_mid i s []
      rw [hp, hw, hi]
      simp only [gI, show (true == true) = true from rfl, cond_true, Option.bind_some, ext_snoc]
      by_cases hx : s.To = x
      · rw [if_pos hx, decide_eq_true hx, cond_true]
        have : (i ++ [s]).set ((i.length : Int).toNat) ⟨s.From, y⟩ = i ++ [⟨s.From, y⟩] := by simp
        rw [this]
      · rw [if_neg hx, decide_eq_false hx, cond_false]
theorem make_loop (a b : List Span) (kind : Int) (ha : a.length < 4611686018427387904) (hb : b.length < 4611686018427387904) (bs : List Int) (hl : bs.length < 1000000000) : ∀ (rest pre : List Int) (out : List Span) (k : Nat), bs = pre ++ rest → rest.length < k → out.length ≤ pre.length →
    ref09_Make_l1 a b kind bs k out (pre.length : Int) = some (makeS (cnd a b kind) rest out)
  | _, _, _, 0, _, h, _ => absurd h (Nat.not_lt_zero _)
  | rest, pre, out, k + 1, hbs, hk, ho => by
    show ref09_Make_l1_b _ _ _ _ _ _ _ = _
    unfold ref09_Make_l1_b
    have hpl : pre.length ≤ bs.length := by rw [hbs]; simp
    have hw : w64 ((pre.length : Int) + 1) = ((pre.length + 1 : Nat) : Int) := w64_nat (by omega)
    match rest, hbs, hk with
    | [], hbs, _ =>
      rw [hw, decide_eq_false (by rw [hbs]; simp; omega), bif_f]; rfl
    | [x], hbs, _ =>
      rw [hw, decide_eq_false (by rw [hbs]; simp), bif_f]; rfl
    | x :: y :: rest, hbs, hk =>
      have hx : idx bs (pre.length : Int) = some x := by rw [hbs]; exact idx_mid pre x _
      rw [decide_eq_true (by rw [hw, hbs]; simp; omega), bif_t, hx, Option.bind_some, has_ref a x ha, Option.bind_some]
      have ih := fun out' (h : out'.length ≤ pre.length + 1) => make_loop a b kind ha hb bs hl (y :: rest) (pre ++ [x]) out' k (by rw [hbs]; simp) (by simp at hk ⊢; omega) (by simpa using h)
      rw [List.length_append, List.length_singleton] at ih
      have j3 := make_j3 bs (ref09_Make_l1 a b kind bs k) out pre rest x y hbs (by omega) (by omega)
      rw [hw] at j3
      have hfin : ∀ q, ref09_Make_j3 bs out (pre.length : Int) (ref09_Make_l1 a b kind bs k) x q = some (makeS (fun _ => q) [x, y] out |> makeS (cnd a b kind) (y :: rest)) := fun q => by
        rw [j3, ih _ (by cases q with | true => exact Nat.le_trans (ext_len _ _ _) (by omega) | false => exact Nat.le_succ_of_le ho)]; rfl
      have j2 : ∀ p, ref09_Make_j2 b kind bs out (pre.length : Int) (ref09_Make_l1 a b kind bs k) x p = some (makeS (cnd a b kind) (y :: rest) (bif (bif decide (kind = 2) then (bif p then !memS b x else false) else p) then ext out x y else out)) := fun p => by
        unfold ref09_Make_j2
        rw [has_ref b x hb]
        cases decide (kind = 2) with
        | true =>
          cases p with
          | true => simp only [gI, show (true == true) = true from rfl, cond_true, Option.bind_some, hfin]; rfl
          | false => simp only [gI, show (false == true) = false from rfl, cond_true, cond_false, Option.bind_some, hfin]; rfl
        | false => simp only [cond_false, hfin]; rfl
      show (bif decide (kind = 1) then _ else _) = some (makeS (cnd a b kind) (y :: rest) (bif cnd a b kind x then ext out x y else out))
      have hcn : cnd a b kind x = (bif decide (kind = 2) then (bif (bif decide (kind = 1) then (bif memS a x then memS b x else false) else memS a x) then !memS b x else false) else (bif decide (kind = 1) then (bif memS a x then memS b x else false) else memS a x)) := rfl
      rw [has_ref b x hb, hcn]
      cases decide (kind = 1) with
      | true =>
        cases hm : memS a x with
        | true => simp only [gI, show (true == true) = true from rfl, cond_true, Option.bind_some, j2]
        | false => simp only [gI, show (false == true) = false from rfl, cond_true, cond_false, Option.bind_some, j2]
      | false => simp only [cond_false, j2]
theorem make_eq (a b : List Span) (kind : Int) (h : a.length + b.length < 104857600) : ref09_Make a b kind = some (makeS (cnd a b kind) (bnds (a ++ b)) []) := by
  unfold ref09_Make
  rw [bounds_eq a b h, Option.bind_some]
  have hb := (bnds_spec (a ++ b)).2.2
  rw [List.length_append] at hb
  exact make_loop a b kind (by omega) (by omega) _ (by omega) _ [] [] N0 rfl (by unfold N0; omega) (Nat.le_refl _)

/-! ### what makeS comes to -/
def inP (c : Int → Bool) (n : Int) : List Int → Prop
  | x :: y :: rest => (c x = true ∧ x ≤ n ∧ n < y) ∨ inP c n (y :: rest)
  | [_] => False
  | [] => False
theorem ext_spec {out : List Span} {x y : Int} (hxy : x < y) (h : Rt out) (ho : ∀ s ∈ out, s.To ≤ x) : Rt (ext out x y) ∧ (∀ s ∈ ext out x y, s.To ≤ y) ∧ ∀ n, memS (ext out x y) n = true ↔ memS out n = true ∨ (x ≤ n ∧ n < y) := by
  rcases List.eq_nil_or_concat out with he | ⟨i, s, he⟩
  · subst he
    rw [ext_nil]
    exact ⟨⟨by simp, by simpa using hxy⟩, by simp, fun n => by simp [memS_cons, memS_nil]⟩
  · rw [List.concat_eq_append] at he
    subst he
    rw [ext_snoc]
    have hp := List.pairwise_append.1 h.1
    have hs := h.2 s (by simp)
    have hsx := ho s (by simp)
    by_cases hx : s.To = x
    · rw [if_pos hx]
      refine ⟨⟨List.pairwise_append.2 ⟨hp.1, by simp, fun p hp1 q hq => ?_⟩, fun p hp1 => ?_⟩, fun p hp1 => ?_, fun n => ?_⟩
      · simp at hq; subst hq
        exact hp.2.2 p hp1 s (by simp)
      · rcases List.mem_append.1 hp1 with h1 | h1
        · exact h.2 p (by simp [h1])
        · simp at h1; subst h1; simp; omega
      · rcases List.mem_append.1 hp1 with h1 | h1
        · have := ho p (by simp [h1]); omega
        · simp at h1; subst h1; simp
      · rw [memS_append, memS_append, memS_cons, memS_cons, memS_nil]
        constructor
        · rintro (h1 | h1 | h1)
          · exact .inl (.inl h1)
          · by_cases hn : n < s.To
            · exact .inl (.inr (.inl ⟨h1.1, hn⟩))
            · exact .inr ⟨by omega, h1.2⟩
          · cases h1
        · rintro ((h1 | h1 | h1) | h1)
          · exact .inl h1
          · exact .inr (.inl ⟨h1.1, by show n < y; omega⟩)
          · cases h1
          · exact .inr (.inl ⟨by show s.From ≤ n; omega, h1.2⟩)
    · rw [if_neg hx]
      refine ⟨⟨List.pairwise_append.2 ⟨h.1, by simp, fun p hp1 q hq => ?_⟩, fun p hp1 => ?_⟩, fun p hp1 => ?_, fun n => ?_⟩
      · simp at hq; subst hq
        rcases List.mem_append.1 hp1 with h1 | h1
        · have := hp.2.2 p h1 s (by simp)
          show p.To < x; omega
        · simp at h1; subst h1; show p.To < x; omega
      · rcases List.mem_append.1 hp1 with h1 | h1
        · exact h.2 p h1
        · simp at h1; subst h1; exact hxy
      · rcases List.mem_append.1 hp1 with h1 | h1
        · have := ho p h1; omega
        · simp at h1; subst h1; simp
      · rw [memS_append, memS_cons, memS_nil]
        constructor
        · rintro (h1 | h1 | h1)
          · exact .inl h1
          · exact .inr h1
          · cases h1
        · rintro (h1 | h1)
          · exact .inl h1
          · exact .inr (.inl h1)
theorem makeS_spec (c : Int → Bool) : ∀ (bs : List Int) (out : List Span), bs.Pairwise (· < ·) → Rt out → (∀ x ∈ bs.head?, ∀ s ∈ out, s.To ≤ x) →
    Rt (makeS c bs out) ∧ ∀ n, memS (makeS c bs out) n = true ↔ memS out n = true ∨ inP c n bs
  | [], out, _, h, _ => ⟨h, fun n => by simp [makeS, inP]⟩
  | [_], out, _, h, _ => ⟨h, fun n => by simp [makeS, inP]⟩
  | x :: y :: rest, out, hb, h, ho => by
    have hb' := List.pairwise_cons.1 hb
    have hxy := hb'.1 y (by simp)
    have ho' := ho x (by simp)
    unfold makeS
    cases hc : c x with
    | true =>
      obtain ⟨e1, e2, e3⟩ := ext_spec hxy h ho'
      obtain ⟨i1, i2⟩ := makeS_spec c (y :: rest) (ext out x y) hb'.2 e1 (fun z hz => by simp at hz; subst hz; exact e2)
      refine ⟨i1, fun n => ?_⟩
      rw [cond_true, i2 n, e3 n]
      show _ ↔ _ ∨ ((c x = true ∧ x ≤ n ∧ n < y) ∨ inP c n (y :: rest))
      simp only [hc, true_and, or_assoc]
    | false =>
      obtain ⟨i1, i2⟩ := makeS_spec c (y :: rest) out hb'.2 h (fun z hz s hs => by simp at hz; subst hz; have := ho' s hs; omega)
      refine ⟨i1, fun n => ?_⟩
      rw [cond_false, i2 n]
      show _ ↔ _ ∨ ((c x = true ∧ x ≤ n ∧ n < y) ∨ inP c n (y :: rest))
      simp [hc]
theorem inP_lt (c : Int → Bool) (n : Int) : ∀ (bs : List Int), bs.Pairwise (· < ·) → (∀ x ∈ bs.head?, n < x) → ¬ inP c n bs
  | [], _, _ => fun h => h
  | [_], _, _ => fun h => h
  | x :: y :: rest, hb, hn => fun h => by
    have hb' := List.pairwise_cons.1 hb
    have h1 := hn x (by simp)
    rcases h with h | h
    · omega
    · exact inP_lt c n (y :: rest) hb'.2 (fun z hz => by simp at hz; subst hz; have := hb'.1 y (by simp); omega) h
theorem inP_iff (c : Int → Bool) (B : Int → Prop) (n : Int) (hconst : ∀ x, x ≤ n → (∀ z, B z → z ≤ x ∨ n < z) → c n = c x) (hup : c n = true → ∃ z, B z ∧ n < z) :
    ∀ (r : List Int) (x : Int), (x :: r).Pairwise (· < ·) → (∀ z, B z → z ≤ x ∨ z ∈ r) → x ≤ n → (inP c n (x :: r) ↔ c n = true)
  | [], x, _, hB, hx => ⟨fun h => h.elim, fun h => by
    obtain ⟨z, hz, hlt⟩ := hup h
    rcases hB z hz with h1 | h1
    · omega
    · cases h1⟩
  | y :: r, x, hb, hB, hx => by
    have hb' := List.pairwise_cons.1 hb
    have hxy := hb'.1 y (by simp)
    show (c x = true ∧ x ≤ n ∧ n < y) ∨ inP c n (y :: r) ↔ _
    by_cases hn : n < y
    · have hnp := inP_lt c n (y :: r) hb'.2 (fun z hz => by simp at hz; subst hz; exact hn)
      have hc := hconst x hx (fun z hz => by
        rcases hB z hz with h1 | h1
        · exact .inl h1
        · refine .inr ?_
          rcases List.mem_cons.1 h1 with h1 | h1
          · omega
          · have := (List.pairwise_cons.1 hb'.2).1 z h1; omega)
      rw [hc]
      exact ⟨fun h => by rcases h with h | h; exact h.1; exact absurd h hnp, fun h => .inl ⟨h, hx, hn⟩⟩
    · have ih := inP_iff c B n hconst hup r y hb'.2 (fun z hz => by
        rcases hB z hz with h1 | h1
        · exact .inl (by omega)
        · rcases List.mem_cons.1 h1 with h1 | h1
          · exact .inl (by omega)
          · exact .inr h1) (by omega)
      rw [← ih]
      exact ⟨fun h => by rcases h with h | h; exact absurd h.2.2 hn; exact h, .inr⟩

theorem memS_const {l : List Span} {x n : Int} (hx : x ≤ n) (h : ∀ s ∈ l, (s.From ≤ x ∨ n < s.From) ∧ (s.To ≤ x ∨ n < s.To)) : memS l n = memS l x := by
  rw [Bool.eq_iff_iff, memS_iff, memS_iff]
  constructor
  · rintro ⟨s, hs, h1, h2⟩
    have := h s hs
    exact ⟨s, hs, by omega, by omega⟩
  · rintro ⟨s, hs, h1, h2⟩
    have := h s hs
    exact ⟨s, hs, by omega, by omega⟩
theorem cnd_a {a b : List Span} {kind n : Int} (h : cnd a b kind n = true) : memS a n = true := by
  unfold cnd at h
  cases hm : memS a n with
  | true => rfl
  | false => rw [hm] at h; cases decide (kind = 1) <;> cases decide (kind = 2) <;> simp at h
/-- THE LAW OF Make -/
theorem make_spec (a b : List Span) (kind : Int) : Rt (makeS (cnd a b kind) (bnds (a ++ b)) []) ∧ ∀ n, memS (makeS (cnd a b kind) (bnds (a ++ b)) []) n = cnd a b kind n := by
  obtain ⟨h1, h2, h3⟩ := bnds_spec (a ++ b)
  obtain ⟨m1, m2⟩ := makeS_spec (cnd a b kind) (bnds (a ++ b)) [] h1 Rt.nil (fun x _ s hs => by cases hs)
  refine ⟨m1, fun n => ?_⟩
  rw [Bool.eq_iff_iff, m2 n, memS_nil]
  simp only [Bool.false_eq_true, false_or]
  have hup : cnd a b kind n = true → ∃ z, (z ∈ bnds (a ++ b)) ∧ n < z := fun h => by
    obtain ⟨s, hs, _, hlt⟩ := memS_iff.1 (cnd_a h)
    exact ⟨s.To, (h2 _).2 ⟨s, by simp [hs], .inr rfl⟩, hlt⟩
  have hdn : cnd a b kind n = true → ∃ z, (z ∈ bnds (a ++ b)) ∧ z ≤ n := fun h => by
    obtain ⟨s, hs, hle, _⟩ := memS_iff.1 (cnd_a h)
    exact ⟨s.From, (h2 _).2 ⟨s, by simp [hs], .inl rfl⟩, hle⟩
  have hconst : ∀ x, x ≤ n → (∀ z, z ∈ bnds (a ++ b) → z ≤ x ∨ n < z) → cnd a b kind n = cnd a b kind x := fun x hx hz => by
    have ha : memS a n = memS a x := memS_const hx fun s hs => ⟨hz _ ((h2 _).2 ⟨s, by simp [hs], .inl rfl⟩), hz _ ((h2 _).2 ⟨s, by simp [hs], .inr rfl⟩)⟩
    have hb : memS b n = memS b x := memS_const hx fun s hs => ⟨hz _ ((h2 _).2 ⟨s, by simp [hs], .inl rfl⟩), hz _ ((h2 _).2 ⟨s, by simp [hs], .inr rfl⟩)⟩
    unfold cnd; rw [ha, hb]
  cases hbs : bnds (a ++ b) with
  | nil =>
    constructor
    · intro h; exact h.elim
    · intro h; obtain ⟨z, hz, _⟩ := hup h; rw [hbs] at hz; cases hz
  | cons x r =>
    rw [hbs] at h1 hup hdn hconst
    by_cases hx : x ≤ n
    · exact inP_iff (cnd a b kind) (· ∈ x :: r) n hconst hup r x h1 (fun z hz => by
        rcases List.mem_cons.1 hz with hz | hz
        · exact .inl (by omega)
        · exact .inr hz) hx
    · constructor
      · intro h; exact absurd h (inP_lt _ n _ h1 (fun z hz => by simp at hz; subst hz; omega))
      · intro h
        obtain ⟨z, hz, hle⟩ := hdn h
        rcases List.mem_cons.1 hz with hz | hz
        · omega
        · have := (List.pairwise_cons.1 h1).1 z hz; omega
end Md
