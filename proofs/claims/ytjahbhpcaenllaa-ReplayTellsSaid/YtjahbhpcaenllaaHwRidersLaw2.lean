/- Boards by number; rows that are owned, opened; what is sorted is so in one way. -/
import Derived.Test.YtjahbhpcaenllaaHwRidersLaw
import Derived.Test.YtjahbhpcaenllaaHwSortKit
import Derived.Test.YtjahbhpcaenllaaHwMap
namespace Go.Hw
open Go

def brs (l : List Trip) : List (Int × Int) := l.map fun t => (t.id, t.board)
theorem look_brs (l : List Trip) : ∀ (b : Nat), (∀ i (h : i < l.length), l[i].id = ((b + i : Nat) : Int)) → ∀ q (hq : q < l.length), lkp (brs l) ((b + q : Nat) : Int) = some l[q].board := by
  induction l with
  | nil => intro b _ q hq; simp at hq
  | cons t l ih =>
    intro b hid q hq
    have h0 := hid 0 (by simp)
    simp only [List.getElem_cons_zero] at h0
    cases q with
    | zero => simp [brs, lkp, h0]
    | succ q =>
      have h2 := ih (b + 1) (fun i h => by
        have := hid (i + 1) (by simp; omega)
        simp only [List.getElem_cons_succ] at this
        rw [this]; omega) q (by simpa using hq)
      show lkp ((t.id, t.board) :: brs l) _ = _
      rw [lkp, if_neg (by simp only [h0]; omega)]
      simp only [List.getElem_cons_succ]
      rw [← h2]; congr 1; omega
theorem look_brd {l : List Trip} (hid : ∀ i (h : i < l.length), l[i].id = i) {x : Int} (h : 0 ≤ x ∧ x < l.length) : lkp (brs l) x = some (brd l x) := by
  obtain ⟨q, rfl⟩ : ∃ q : Nat, x = q := ⟨x.toNat, by omega⟩
  have hq : q < l.length := by omega
  have := look_brs l 0 (fun i h => by rw [hid i h]; omega) q hq
  rw [Nat.zero_add] at this
  rw [this, brd_at l q hq]
theorem look_none (ks : List (Int × Int)) (x : Int) (h : ∀ p ∈ ks, p.1 ≠ x) : lkp ks x = none := by
  induction ks with
  | nil => rfl
  | cons p ks ih => rw [lkp, if_neg (fun e => h p (by simp) e.symm)]; exact ih fun q hq => h q (by simp [hq])
theorem look_take {l : List Trip} (hid : ∀ i (h : i < l.length), l[i].id = i) (k : Nat) (hk : k < l.length) : lkp (brs (l.take k)) l[k].id = none := by
  refine look_none _ _ fun p hp => ?_
  obtain ⟨t, ht, rfl⟩ := List.mem_map.1 hp
  obtain ⟨i, hi, rfl⟩ := List.getElem_of_mem ht
  have h1 := take_ids hid k i hi
  simp only [List.length_take] at hi
  show (l.take k)[i].id ≠ l[k].id
  rw [h1, hid k hk]; omega
theorem brs_snoc (l : List Trip) (k : Nat) (hk : k < l.length) : brs (l.take (k + 1)) = brs (l.take k) ++ [(l[k].id, l[k].board)] := by
  unfold brs
  rw [List.take_succ_eq_append_getElem hk, List.map_append]; rfl

theorem owns_open {w : World} {e n : Nat} {v : Value} {xs : List Int} (h : w.ownsRow 0 e 1 v n (ints xs)) : xs.length = n ∧ ((v = .slice none 0 0 ∧ n = 0) ∨
    ∃ g cap rest, v = .slice (some ⟨g, 0, none⟩) n cap ∧ At w g (.cells (ints xs ++ rest).toArray e) ∧ ∀ (w' : World) (ys : List Int), ys.length = xs.length → At w' g (.cells (ints ys ++ rest).toArray e) → w'.ownsRow 0 e 1 v n (ints ys)) := by
  obtain ⟨hl, h⟩ := h
  rw [ints_len, Nat.mul_one] at hl
  refine ⟨hl, ?_⟩
  rcases h with h | ⟨g, cap, cur, hv, hb, hg, hnc, hm, hs, ht⟩
  · exact .inl h
  · refine .inr ⟨g, cap, cur.toList.drop n, hv, ?_, fun w' ys hy hat => ?_⟩
    · rw [Nat.mul_one] at ht
      rw [← ht, List.take_append_drop]; exact hg
    · have hyl : (ints ys).length = n := by rw [ints_len]; omega
      refine ⟨by rw [hyl, Nat.mul_one], .inr ⟨g, cap, _, hv, hb, hat, hnc, hm, ?_, ?_⟩⟩
      · have : cur.size = cur.toList.length := by simp
        simp only [List.size_toArray, List.length_append, List.length_drop, hyl]; omega
      · show (ints ys ++ _).take (n * 1) = ints ys
        rw [Nat.mul_one, ← hyl, List.take_left]

theorem sorted_is {l : List Trip} {car tick : Int} {ys : List Int} (hid : ∀ i (h : i < l.length), l[i].id = i) (h : Hw.Sym.SortOf (brd l) (sel (loadB car tick) l) ys) : ys = ridK l car tick l.length := by
  have h2 := Hw.Riders.insAll_spec (brd l) (sel (loadB car tick) (l.take l.length)) (sel_inc _ _ (take_ids hid l.length))
  rw [List.take_length] at h2
  have e : ridK l car tick l.length = Hw.Riders.insAll (brd l) (sel (loadB car tick) l) := by unfold ridK; rw [List.take_length]
  rw [e]
  refine List.Perm.eq_of_pairwise (le := Hw.Sym.lex (brd l)) (fun a b _ _ h1 h2 => ?_) h.1 (h2.1.imp fun h => h) (h.2.trans h2.2.symm)
  unfold Hw.Sym.lex at h1 h2; omega
theorem brd_bd {l : List Trip} (h : ∀ i (h : i < l.length), -1073741824 ≤ l[i].board ∧ l[i].board ≤ 1073741824) (x : Int) : -1073741824 ≤ brd l x ∧ brd l x ≤ 1073741824 := by
  unfold brd
  rcases Nat.lt_or_ge x.toNat l.length with hx | hx
  · rw [List.getElem?_eq_getElem hx]; exact h _ hx
  · rw [List.getElem?_eq_none hx]; simp
end Go.Hw
