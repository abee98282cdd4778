/- The law's riders: rows that go in one by one, by their boards. -/
import Derived.Test.YtjahbhpcaenllaaHwReplayLaw
import Derived.Test.YtjahbhpcaenllaaHwRidersMath
import Derived.Test.YtjahbhpcaenllaaHwSymLists
import Derived.Test.YtjahbhpcaenllaaHwSlice
namespace Go.Hw
open Go

def brd (l : List Trip) (i : Int) : Int := (l[i.toNat]?.map Trip.board).getD 0
def ridK (l : List Trip) (car tick : Int) (k : Nat) : List Int := Hw.Riders.insAll (brd l) (sel (loadB car tick) (l.take k))

theorem brd_at (l : List Trip) (q : Nat) (hq : q < l.length) : brd l (q : Nat) = l[q].board := by simp [brd, hq]
theorem trip_board {w : World} {b o : Nat} {l : List Trip} (hc : ∀ i (hi : i < l.length) j u, (Trip.enc l[i])[j]? = some u → w.cell? ⟨b, o + i * (6 + 1) + j, none⟩ = some u) {q : Nat} (hq : q < l.length) :
    w.cell? ⟨b, o + q * 7 + 5, none⟩ = some (.int .i64 (brd l (q : Nat))) := by
  rw [brd_at l q hq]; exact hc q hq 5 _ rfl

theorem ridK_zero (l : List Trip) (car tick : Int) : ridK l car tick 0 = [] := by simp [ridK, sel, Hw.Riders.insAll]
theorem ridK_snoc (l : List Trip) (car tick : Int) (k : Nat) (h : k < l.length) (hid : l[k].id = k) : ridK l car tick (k + 1) = if loadB car tick l[k] = true then Hw.Riders.ins (brd l) (ridK l car tick k) k else ridK l car tick k := by
  unfold ridK
  rw [sel_snoc _ _ _ h]
  cases loadB car tick l[k] with
  | true => simp [Hw.Riders.insAll, List.foldl_append, hid]
  | false => simp
theorem sel_inc (f : Trip → Bool) (l : List Trip) (hid : ∀ i (h : i < l.length), l[i].id = i) : (sel f l).Pairwise (· < ·) := by
  unfold sel
  have h1 : (l.map (·.id)).Pairwise (· < ·) := List.pairwise_iff_getElem.2 fun i j hi hj hij => by
    simp only [List.length_map] at hi hj
    simp only [List.getElem_map, hid i hi, hid j hj]; omega
  exact h1.sublist (List.Sublist.map _ List.filter_sublist)
theorem sel_mem (f : Trip → Bool) (l : List Trip) (hid : ∀ i (h : i < l.length), l[i].id = i) (x : Int) (hx : x ∈ sel f l) : 0 ≤ x ∧ x < l.length := by
  obtain ⟨t, ht, rfl⟩ := List.mem_map.1 hx
  obtain ⟨i, hi, rfl⟩ := List.getElem_of_mem ((List.mem_filter.1 ht).1)
  rw [hid i hi]; omega
theorem take_ids {l : List Trip} (hid : ∀ i (h : i < l.length), l[i].id = i) (k : Nat) : ∀ i (h : i < (l.take k).length), (l.take k)[i].id = i := fun i h => by
  rw [List.getElem_take]; exact hid i (by simp at h; omega)
theorem ridK_perm (l : List Trip) (car tick : Int) (k : Nat) (hid : ∀ i (h : i < l.length), l[i].id = i) : (ridK l car tick k).Perm (sel (loadB car tick) (l.take k)) := (Hw.Riders.insAll_spec _ _ (sel_inc _ _ (take_ids hid k))).2
theorem ridK_mem (l : List Trip) (car tick : Int) (k : Nat) (hid : ∀ i (h : i < l.length), l[i].id = i) (x : Int) (hx : x ∈ ridK l car tick k) : 0 ≤ x ∧ x < l.length := by
  have := sel_mem _ _ (take_ids hid k) x ((ridK_perm l car tick k hid).subset hx)
  have h2 : (l.take k).length ≤ l.length := by simp; omega
  omega
theorem ridK_len (l : List Trip) (car tick : Int) (k : Nat) (hid : ∀ i (h : i < l.length), l[i].id = i) : (ridK l car tick k).length ≤ k := by
  rw [(ridK_perm l car tick k hid).length_eq]; exact sel_len _ _ _

/-- what the law's inner loop looks at -/
theorem out_nat {out : List Int} {n j : Nat} (hall : ∀ x ∈ out, 0 ≤ x ∧ x < n) (hj : 0 < j) (hl : j ≤ out.length) : ∃ h : j - 1 < out.length, out[j - 1] = (((out.getD (j - 1) 0).toNat : Nat) : Int) ∧ (out.getD (j - 1) 0).toNat < n ∧ out.getD (j - 1) 0 = (((out.getD (j - 1) 0).toNat : Nat) : Int) := by
  have h : j - 1 < out.length := by omega
  have h2 := hall _ (List.getElem_mem h)
  have e : out.getD (j - 1) 0 = out[j - 1] := by rw [List.getD_eq_getElem?_getD, List.getElem?_eq_getElem h, Option.getD_some]
  rw [e]
  exact ⟨h, by omega, by omega, by omega⟩
theorem scan_go {f : Int → Int} {t : Int} {out : List Int} {j : Nat} (hj : 0 < j) (h : f (out.getD (j - 1) 0) > t) : Hw.Riders.scan f t out j = Hw.Riders.scan f t out (j - 1) := by
  obtain ⟨i, rfl⟩ : ∃ i, j = i + 1 := ⟨j - 1, by omega⟩
  rw [Hw.Riders.scan, Nat.add_sub_cancel] at *
  rw [if_pos h]
theorem scan_stop {f : Int → Int} {t : Int} {out : List Int} {j : Nat} (h : 0 < j → ¬ f (out.getD (j - 1) 0) > t) : Hw.Riders.scan f t out j = j := by
  cases j with
  | zero => rfl
  | succ i => rw [Hw.Riders.scan, if_neg (by simpa using h (by omega))]

theorem ridersB {car tick : Int} {t : Trip} {b : Bool} (h : (bif (bif (bif !decide (t.car = car) then true else decide (t.board < 0)) then true else decide (tick < t.board)) then true else (bif decide (0 ≤ t.alight) then decide (t.alight ≤ tick) else false)) = b) : loadB car tick t = !b := by
  subst h
  unfold loadB
  by_cases h1 : t.car = car <;> by_cases h2 : t.board < 0 <;> by_cases h3 : tick < t.board <;> by_cases h4 : 0 ≤ t.alight <;> by_cases h5 : t.alight ≤ tick <;> simp [h1, h2, h3, h4, h5] <;> omega
theorem ints_ins (out : List Int) (j k : Nat) : [] ++ (ints out).take j ++ [.int .i64 (k : Nat)] ++ (ints out).drop j = ints (out.take j ++ (k : Int) :: out.drop j) := by
  simp [ints, List.map_take, List.map_drop]
end Go.Hw
