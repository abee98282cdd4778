/- Merge and Has of a row, and the loops of the rota. -/
import Derived.Test.YtjahbhpcaenllaaHwSpanMake2
import Derived.Test.YtjahbhpcaenllaaHwMpLaw
namespace Md
open Go Go.Hw

/-! ### Merge -/
def mstep (out : List Span) (s : Span) : List Span :=
  bif decide (s.To ≤ s.From) then out else match out.getLast? with
    | some t => if s.From ≤ t.To then out.dropLast ++ [⟨t.From, mx t.To s.To⟩] else out ++ [s]
    | none => [s]
theorem mstep_nil (s : Span) : mstep [] s = if s.To ≤ s.From then [] else [s] := by
  unfold mstep
  by_cases h : s.To ≤ s.From <;> simp [h]
theorem mstep_snoc (i : List Span) (t s : Span) : mstep (i ++ [t]) s = if s.To ≤ s.From then i ++ [t] else if s.From ≤ t.To then i ++ [⟨t.From, mx t.To s.To⟩] else i ++ [t] ++ [s] := by
  unfold mstep
  by_cases h : s.To ≤ s.From <;> simp [h]
theorem mstep_len (out : List Span) (s : Span) : (mstep out s).length ≤ out.length + 1 := by
  rcases List.eq_nil_or_concat out with he | ⟨i, t, he⟩
  · subst he; rw [mstep_nil]; split <;> simp
  · subst he
    rw [List.concat_eq_append, mstep_snoc]
    split
    · simp
    · split <;> simp
theorem foldl_mstep_len : ∀ (l out : List Span), (l.foldl mstep out).length ≤ out.length + l.length
  | [], _ => by simp
  | s :: l, out => by
    have := foldl_mstep_len l (mstep out s)
    have := mstep_len out s
    simp only [List.foldl_cons, List.length_cons]; omega
theorem rt_snoc {i : List Span} {t : Span} : Rt (i ++ [t]) ↔ Rt i ∧ t.From < t.To ∧ ∀ u ∈ i, u.To < t.From := by
  unfold Rt
  rw [List.pairwise_append]
  constructor
  · rintro ⟨⟨h1, _, h3⟩, h4⟩
    exact ⟨⟨h1, fun s hs => h4 s (List.mem_append_left _ hs)⟩, h4 t (by simp), fun u hu => h3 u hu t (by simp)⟩
  · rintro ⟨⟨h1, h2⟩, h3, h4⟩
    refine ⟨⟨h1, by simp, fun a ha b hb => ?_⟩, fun s hs => ?_⟩
    · obtain rfl : b = t := by simpa using hb
      exact h4 a ha
    · rcases List.mem_append.1 hs with hs | hs
      · exact h2 s hs
      · obtain rfl : s = t := by simpa using hs
        exact h3
theorem memS_one {s : Span} {n : Int} : memS [s] n = true ↔ s.From ≤ n ∧ n < s.To := by rw [memS_cons, memS_nil]; simp
theorem mstep_spec {out : List Span} {s : Span} (h : Rt out) (ho : ∀ t ∈ out, t.From ≤ s.From) :
    Rt (mstep out s) ∧ (∀ t ∈ mstep out s, t.From ≤ s.From) ∧ ∀ n, memS (mstep out s) n = true ↔ memS out n = true ∨ (s.From ≤ n ∧ n < s.To) := by
  rcases List.eq_nil_or_concat out with he | ⟨i, t, he⟩
  · subst he; rw [mstep_nil]
    split
    · exact ⟨h, ho, fun n => by rw [memS_nil]; simp; omega⟩
    · refine ⟨⟨by simp, by simp; omega⟩, by simp, fun n => by rw [memS_one, memS_nil]; simp⟩
  · subst he
    rw [List.concat_eq_append] at *
    rw [mstep_snoc]
    obtain ⟨h1, h2, h3⟩ := rt_snoc.1 h
    have hts := ho t (by simp)
    split
    · exact ⟨h, ho, fun n => ⟨.inl, fun h' => h'.resolve_right (by omega)⟩⟩
    · split
      · refine ⟨rt_snoc.2 ⟨h1, ?_, h3⟩, fun u hu => ?_, fun n => ?_⟩
        · show t.From < mx t.To s.To
          unfold mx; split <;> omega
        · rcases List.mem_append.1 hu with hu | hu
          · exact ho u (List.mem_append_left _ hu)
          · obtain rfl : u = ⟨t.From, mx t.To s.To⟩ := by simpa using hu
            exact hts
        · rw [memS_append, memS_append, memS_one, memS_one]
          show _ ∨ (t.From ≤ n ∧ n < mx t.To s.To) ↔ _
          unfold mx
          generalize memS i n = b
          cases b <;> simp <;> split <;> omega
      · refine ⟨rt_snoc.2 ⟨h, by omega, fun u hu => ?_⟩, fun u hu => ?_, fun n => ?_⟩
        · rcases List.mem_append.1 hu with hu | hu
          · have := h3 u hu; omega
          · obtain rfl : u = t := by simpa using hu
            omega
        · rcases List.mem_append.1 hu with hu | hu
          · exact ho u hu
          · obtain rfl : u = s := by simpa using hu
            exact Int.le_refl _
        · rw [memS_append (a := i ++ [t]), memS_one]
theorem foldl_mstep_spec : ∀ (l out : List Span), Rt out → (∀ t ∈ out, ∀ s ∈ l, t.From ≤ s.From) → l.Pairwise (fun s t => s.From ≤ t.From) →
    Rt (l.foldl mstep out) ∧ ∀ n, memS (l.foldl mstep out) n = true ↔ memS out n = true ∨ memS l n = true
  | [], out, h, _, _ => ⟨h, fun n => by simp [memS_nil]⟩
  | s :: l, out, h, ho, hp => by
    obtain ⟨h1, h2, h3⟩ := mstep_spec h (s := s) fun t ht => ho t ht s List.mem_cons_self
    have hp' := List.pairwise_cons.1 hp
    obtain ⟨i1, i2⟩ := foldl_mstep_spec l (mstep out s) h1 (fun t ht x hx => Int.le_trans (h2 t ht) (hp'.1 x hx)) hp'.2
    refine ⟨i1, fun n => ?_⟩
    rw [List.foldl_cons, i2 n, h3 n, memS_cons]
    exact or_assoc
def mergeS (l : List Span) : List Span := (sortL cmpFrom l).foldl mstep []
theorem mergeS_len (l : List Span) : (mergeS l).length ≤ l.length := by
  have := foldl_mstep_len (sortL cmpFrom l) []
  rw [sort_cmpFrom_len] at this
  show (List.foldl mstep [] (sortL cmpFrom l)).length ≤ _
  simpa using this
theorem memS_perm {a b : List Span} (h : a.Perm b) (n : Int) : memS a n = true ↔ memS b n = true := by
  rw [memS_iff, memS_iff]
  exact ⟨fun ⟨s, hs, h'⟩ => ⟨s, h.mem_iff.1 hs, h'⟩, fun ⟨s, hs, h'⟩ => ⟨s, h.mem_iff.2 hs, h'⟩⟩
theorem mergeS_spec (l : List Span) : Rt (mergeS l) ∧ ∀ n, memS (mergeS l) n = true ↔ memS l n = true := by
  have hs := sortL_sorted cmpFrom cmpFrom_swo l
  obtain ⟨h1, h2⟩ := foldl_mstep_spec (sortL cmpFrom l) [] Rt.nil (fun t ht => by cases ht) (hs.imp fun {x y} h => by
    unfold cmpFrom at h
    exact (not_lt_by Span.From y x).1 h)
  refine ⟨h1, fun n => ?_⟩
  rw [show mergeS l = (sortL cmpFrom l).foldl mstep [] from rfl, h2 n, memS_nil, memS_perm (sortL_perm cmpFrom cmpFrom_swo l) n]
  simp
theorem idx_last (i : List Span) (t : Span) (h : i.length < 1048576000) : w64 (((i ++ [t]).length : Int) - 1) = (i.length : Int) := by
  rw [w64_in (by simp; omega)]; simp
theorem merge_loop (x1 : List Span) (hl : x1.length < 104857600) : ∀ (rest pre out : List Span) (k : Nat), sortL cmpFrom x1 = pre ++ rest → rest.length < k → out.length ≤ pre.length →
    span_Merge_l1 x1 k out (pre.length : Int) = some (rest.foldl mstep out)
  | _, _, _, 0, _, hk, _ => absurd hk (Nat.not_lt_zero _)
  | [], pre, out, k + 1, he, _, _ => by
    show span_Merge_l1_b _ _ _ _ = _
    unfold span_Merge_l1_b
    rw [he, lt_end, bif_f]; rfl
  | s :: rest, pre, out, k + 1, he, hk, ho => by
    show span_Merge_l1_b _ _ _ _ = _
    unfold span_Merge_l1_b
    have hlen : (pre ++ s :: rest).length < 104857600 := by rw [← he, sort_cmpFrom_len]; exact hl
    have hlen' : pre.length + rest.length + 1 < 104857600 := by simpa [Nat.add_assoc] using hlen
    have ih := fun o ho' => merge_loop x1 hl rest (pre ++ [s]) o k (by rw [he, snoc_eq]) (by simp at hk; omega) ho'
    rw [List.length_append, List.length_singleton] at ih
    rw [he, lt_mid, bif_t, idx_mid, Option.bind_some, w64_nat (by omega)]
    rw [List.foldl_cons]
    by_cases h1 : s.To ≤ s.From
    · rw [decide_eq_true h1, bif_t, ih out (by omega)]
      have : mstep out s = out := by unfold mstep; rw [decide_eq_true h1, bif_t]
      rw [this]
    · rw [decide_eq_false h1, bif_f]
      rcases List.eq_nil_or_concat out with hn | ⟨i, t, hn⟩
      · subst hn
        rw [mstep_nil, if_neg h1]
        have : chk (fits (([] : List Span) ++ [s]).length) (span_Merge_l1 x1 k ([] ++ [s]) ((pre.length + 1 : Nat) : Int)) = some (rest.foldl mstep [s]) := by
          unfold chk
          rw [if_pos (by unfold fits; simp), List.nil_append]
          exact ih [s] (by simp)
        simpa [gI] using this
      · subst hn
        rw [List.concat_eq_append] at *
        have hi : i.length < 1048576000 := by simp at ho; omega
        rw [idx_last i t hi, show decide ((0 : Int) < ((i ++ [t]).length : Int)) = true from decide_eq_true (by simp), show idx (i ++ [t]) (i.length : Int) = some t from idx_mid i t []]
        simp only [gI, Option.bind_some, beq_self_eq_true, bif_t]
        rw [mstep_snoc, if_neg h1]
        by_cases h2 : s.From ≤ t.To
        · rw [decide_eq_true h2, bif_t, if_pos h2]
          rw [show (i ++ [t]).set ((i.length : Int)).toNat ⟨t.From, mx t.To s.To⟩ = i ++ [⟨t.From, mx t.To s.To⟩] by simp]
          exact ih _ (by simp at ho ⊢; omega)
        · rw [decide_eq_false h2, bif_f, if_neg h2]
          unfold chk
          rw [if_pos (by unfold fits; simp at ho ⊢; omega)]
          exact ih _ (by simp at ho ⊢; omega)
theorem merge_eq (l : List Span) (h : l.length < 104857600) : span_Merge l = some (mergeS l) := by
  unfold span_Merge clone_Span
  simp only [List.nil_append]
  unfold chk
  rw [if_pos (by unfold fits; omega), Option.bind_some, if_pos (by unfold fits; omega)]
  exact merge_loop l h (sortL cmpFrom l) [] [] N0 rfl (by rw [sort_cmpFrom_len]; unfold N0; omega) (by simp)

/-! ### Has -/
theorem half (i j : Nat) (h : i + j < 4611686018427387904) : IntKind.i64.wrap (shrI .u64 (IntKind.u64.wrap (w64 ((i : Int) + (j : Int)))) 1) = (((i + j) / 2 : Nat) : Int) := by
  rw [w64_in (by omega)]
  have h1 : IntKind.u64.wrap ((i : Int) + (j : Int)) = (i : Int) + (j : Int) := by
    show ((i : Int) + (j : Int)) % _ = _
    refine Int.emod_eq_of_lt (by omega) ?_
    show _ < (2 : Int) ^ 64
    omega
  rw [h1]
  have h2 : shrI .u64 ((i : Int) + (j : Int)) 1 = (((i + j) / 2 : Nat) : Int) := by
    show ((i : Int) + (j : Int)).fdiv 2 = _
    rw [Int.fdiv_eq_ediv_of_nonneg _ (by omega)]
    omega
  rw [h2]
  exact w64_in (by omega)

/-- from here on the spans end later -/
def spot (l : List Span) (n : Int) (i : Nat) : Prop := i ≤ l.length ∧ (∀ j s, j < i → l[j]? = some s → s.To ≤ n) ∧ ∀ j s, i ≤ j → l[j]? = some s → n < s.To
theorem rt_to {l : List Span} (h : Rt l) {i j : Nat} {s t : Span} (hij : i < j) (hs : l[i]? = some s) (ht : l[j]? = some t) : s.To < t.From := by
  obtain ⟨hi, rfl⟩ := List.getElem?_eq_some_iff.1 hs
  obtain ⟨hj, rfl⟩ := List.getElem?_eq_some_iff.1 ht
  exact List.pairwise_iff_getElem.1 h.1 i j hi hj hij
theorem bs_loop (l : List Span) (n : Int) (h : Rt l) (hl : l.length < 104857600) : ∀ (k i j : Nat), j - i < k → i ≤ j → j ≤ l.length →
    (∀ a s, a < i → l[a]? = some s → s.To ≤ n) → (∀ a s, j ≤ a → l[a]? = some s → n < s.To) →
    ∃ (r : Nat) (b : Bool), bsearch_Span_l1 l n k (i : Int) (j : Int) = some ((r : Int), b) ∧ spot l n r
  | 0, _, _, hk, _, _, _, _ => absurd hk (Nat.not_lt_zero _)
  | k + 1, i, j, hk, hij, hj, h1, h2 => by
    show ∃ (r : Nat) (b : Bool), bsearch_Span_l1_b _ _ _ _ _ = _ ∧ _
    unfold bsearch_Span_l1_b
    by_cases hlt : i < j
    · rw [decide_eq_true (by omega : (i : Int) < (j : Int)), bif_t, half i j (by omega), idx_nat]
      have hm : (i + j) / 2 < l.length := by omega
      rw [List.getElem?_eq_getElem hm, Option.bind_some]
      have hs : l[(i + j) / 2]? = some l[(i + j) / 2] := List.getElem?_eq_getElem hm
      generalize l[(i + j) / 2] = s at hs
      unfold span_Has_1
      by_cases hc : s.To ≤ n
      · rw [decide_eq_true hc, bif_t, Option.bind_some, decide_eq_true (by decide : (-1 : Int) < 0), bif_t, w64_nat (by omega)]
        refine bs_loop l n h hl k ((i + j) / 2 + 1) j (by omega) (by omega) hj (fun a t ha ht => ?_) h2
        rcases Nat.lt_or_ge a ((i + j) / 2) with h' | h'
        · have h3 := rt_to h h' ht hs
          have h4 := h.2 s (List.mem_of_getElem? hs)
          omega
        · obtain rfl : a = (i + j) / 2 := by omega
          rw [hs] at ht; cases ht; exact hc
      · rw [decide_eq_false hc, bif_f, Option.bind_some, decide_eq_false (by decide : ¬ (1 : Int) < 0), bif_f]
        refine bs_loop l n h hl k i ((i + j) / 2) (by omega) (by omega) (by omega) h1 (fun a t ha ht => ?_)
        rcases Nat.lt_or_ge ((i + j) / 2) a with h' | h'
        · have h3 := rt_to h h' hs ht
          have h4 := h.2 t (List.mem_of_getElem? ht)
          omega
        · obtain rfl : a = (i + j) / 2 := by omega
          rw [hs] at ht; cases ht; omega
    · obtain rfl : i = j := by omega
      rw [decide_eq_false (by omega : ¬ (i : Int) < (i : Int)), bif_f, idx_nat]
      by_cases hi : i < l.length
      · rw [decide_eq_true (by omega : (i : Int) < (l.length : Int)), List.getElem?_eq_getElem hi]
        simp only [gI, beq_self_eq_true, bif_t, Option.bind_some]
        unfold span_Has_1
        by_cases hc : (l[i]).To ≤ n
        · rw [decide_eq_true hc, bif_t, Option.bind_some]
          exact ⟨i, _, rfl, hj, h1, h2⟩
        · rw [decide_eq_false hc, bif_f, Option.bind_some]
          exact ⟨i, _, rfl, hj, h1, h2⟩
      · rw [decide_eq_false (by omega : ¬ (i : Int) < (l.length : Int))]
        exact ⟨i, _, rfl, hj, h1, h2⟩
theorem has_eq (l : List Span) (n : Int) (h : Rt l) (hl : l.length < 104857600) : span_Has l n = some (memS l n) := by
  unfold span_Has bsearch_Span
  obtain ⟨r, b, he, hr, h1, h2⟩ := bs_loop l n h hl N0 0 l.length (by unfold N0; omega) (Nat.zero_le _) (Nat.le_refl _) (fun a s ha => absurd ha (Nat.not_lt_zero _)) (fun a s ha hs => by
    rw [List.getElem?_eq_none ha] at hs; cases hs)
  rw [show bsearch_Span_l1 l n N0 0 (l.length : Int) = some ((r : Int), b) from he, Option.bind_some]
  by_cases hi : r < l.length
  · have hs : l[r]? = some l[r] := List.getElem?_eq_getElem hi
    rw [show decide (((r : Int), b).1 < (l.length : Int)) = true from decide_eq_true (by show (r : Int) < _; omega)]
    rw [show idx l ((r : Int), b).1 = some l[r] by rw [← hs]; exact idx_nat l r]
    generalize l[r] = s at hs
    simp only [gI, beq_self_eq_true, bif_t, Option.bind_some]
    have hsm := List.mem_of_getElem? hs
    congr 1
    rw [Bool.eq_iff_iff, memS_iff, decide_eq_true_eq]
    constructor
    · exact fun h' => ⟨s, hsm, h', h2 r s (Nat.le_refl _) hs⟩
    · rintro ⟨t, ht, h3, h4⟩
      obtain ⟨j, hj⟩ := List.mem_iff_getElem?.1 ht
      rcases Nat.lt_trichotomy j r with h' | h' | h'
      · have := h1 j t h' hj; omega
      · subst h'; rw [hs] at hj; cases hj; exact h3
      · have := rt_to h h' hs hj
        have := h.2 s hsm
        omega
  · rw [show decide (((r : Int), b).1 < (l.length : Int)) = false from decide_eq_false (by show ¬ (r : Int) < _; omega)]
    show some false = some (memS l n)
    congr 1
    symm
    rw [Bool.eq_false_iff, Ne, memS_iff]
    rintro ⟨t, ht, h3, h4⟩
    obtain ⟨j, hj⟩ := List.mem_iff_getElem?.1 ht
    have hjl := (List.getElem?_eq_some_iff.1 hj).1
    have := h1 j t (by omega) hj
    omega

/-! ### Back -/
def backF : List Span → Int → Int
  | [], n => n
  | s :: l, n => bif inS s n then s.To else backF l n
def backG : List Span → Int → Int → Int
  | [], _, b => b
  | s :: l, n, b => backG l n (bif inS s n then s.To else b)
theorem backG_out : ∀ {l : List Span} {n b : Int}, memS l n = false → backG l n b = b
  | [], _, _, _ => rfl
  | s :: l, n, b, h => by
    simp only [memS, List.any_cons, Bool.or_eq_false_iff] at h
    show backG l n (bif inS s n then s.To else b) = b
    rw [h.1, bif_f]; exact backG_out h.2
theorem backG_eq : ∀ {l : List Span} {n : Int}, Rt l → backG l n n = backF l n
  | [], _, _ => rfl
  | s :: l, n, h => by
    show backG l n (bif inS s n then s.To else n) = bif inS s n then s.To else backF l n
    cases hs : inS s n with
    | false => simp only [bif_f]; exact backG_eq h.tail
    | true =>
      simp only [bif_t]
      refine backG_out ?_
      rw [Bool.eq_false_iff]
      intro hm
      have := h.mem_tail hm
      unfold inS at hs
      by_cases h1 : s.From ≤ n
      · rw [decide_eq_true h1, bif_t, decide_eq_true_eq] at hs; omega
      · rw [decide_eq_false h1, bif_f] at hs; cases hs
theorem back_loop (m : Mp Int (List Span)) (c n : Int) : ∀ (rest pre : List Span) (k : Nat), (mget m c).getD [] = pre ++ rest → rest.length < k → (pre ++ rest).length < 104857600 → rota_Back_l1 (Rota_Rota.mk m) c n k (pre.length : Int) = some (backF rest n)
  | _, _, 0, _, hk, _ => absurd hk (Nat.not_lt_zero _)
  | [], pre, k + 1, he, _, _ => by
    show rota_Back_l1_b _ _ _ _ _ = _
    unfold rota_Back_l1_b
    dsimp only
    rw [he, lt_end, bif_f]; rfl
  | x :: rest, pre, k + 1, he, hk, hl => by
    show rota_Back_l1_b _ _ _ _ _ = _
    unfold rota_Back_l1_b
    dsimp only
    rw [he, lt_mid, bif_t, idx_mid, Option.bind_some]
    have ih := back_loop m c n rest (pre ++ [x]) k (by rw [he, snoc_eq]) (by simp at hk; omega) (by rw [← snoc_eq]; exact hl)
    rw [List.length_append, List.length_singleton] at ih
    rw [w64_nat (by simp at hl; omega), ih]
    show (bif inS x n then some x.To else _) = some (bif inS x n then x.To else _)
    cases inS x n <;> rfl
theorem back_eq (m : Mp Int (List Span)) (c n : Int) (l : List Span) (h : (mget m c).getD [] = l) (hl : l.length < 104857600) : rota_Back (Rota_Rota.mk m) c n = some (backF l n) :=
  back_loop m c n l [] N0 (by simpa using h) (by unfold N0; omega) (by simpa using hl)
theorem serves_eq (m : Mp Int (List Span)) (c n : Int) (l : List Span) (h : (mget m c).getD [] = l) (hr : Rt l) (hl : l.length < 104857600) : rota_Serves (Rota_Rota.mk m) c n = some (!memS l n) := by
  unfold rota_Serves
  dsimp only
  rw [h, has_eq l n hr hl]; rfl
/-! ### Equal -/
theorem equal_loop (l : List Span) (hl : l.length < 104857600) : ∀ (rest pre : List Span) (k : Nat), l = pre ++ rest → rest.length < k → equal_Span_l1 l l k (pre.length : Int) = some true
  | _, _, 0, _, hk => absurd hk (Nat.not_lt_zero _)
  | [], pre, k + 1, he, _ => by
    show equal_Span_l1_b _ _ _ _ = _
    unfold equal_Span_l1_b
    rw [he, lt_end, bif_f]
  | x :: rest, pre, k + 1, he, hk => by
    show equal_Span_l1_b _ _ _ _ = _
    unfold equal_Span_l1_b
    have ih := equal_loop l hl rest (pre ++ [x]) k (by rw [he, snoc_eq]) (by simp at hk; omega)
    rw [List.length_append, List.length_singleton] at ih
    rw [w64_nat (by rw [he] at hl; simp at hl; omega), ih]
    rw [he, lt_mid, bif_t, idx_mid, Option.bind_some, Option.bind_some]
    rw [decide_eq_true rfl]; rfl
theorem equal_eq (l : List Span) (hl : l.length < 104857600) : equal_Span l l = some true := by
  unfold equal_Span
  rw [decide_eq_true rfl]
  exact equal_loop l hl l [] N0 rfl (by unfold N0; omega)
end Md
