/- What the library's stable sort does, as plain lists: swaps, rows turned about, merges by halves, blocks. -/
import Derived.Test.YtjahbhpcaenllaaHwSymLists
namespace Hw.Sym

/-- two numbers change places -/
def swp (xs : List Int) (i j : Nat) : List Int := (xs.set i (xs.getD j 0)).set j (xs.getD i 0)
theorem swp_len (xs : List Int) (i j : Nat) : (swp xs i j).length = xs.length := by simp [swp]
theorem getD_app {P Q : List Int} {x : Int} {i : Nat} (h : P.length = i) : (P ++ x :: Q).getD i 0 = x := by
  subst h; simp [List.getD_eq_getElem?_getD]
theorem set_app {P Q : List Int} {x y : Int} {i : Nat} (h : P.length = i) : (P ++ x :: Q).set i y = P ++ y :: Q := by
  subst h; simp
theorem swp_up {P M Q : List Int} {x y : Int} {i j : Nat} (hi : P.length = i) (hj : i + 1 + M.length = j) : swp (P ++ x :: (M ++ y :: Q)) i j = P ++ y :: (M ++ x :: Q) := by
  unfold swp
  have e : P ++ x :: (M ++ y :: Q) = (P ++ x :: M) ++ y :: Q := by simp
  have h1 : (P ++ x :: (M ++ y :: Q)).getD i 0 = x := getD_app hi
  have h2 : (P ++ x :: (M ++ y :: Q)).getD j 0 = y := by rw [e]; exact getD_app (by simp; omega)
  rw [h1, h2, set_app hi]
  have e2 : P ++ y :: (M ++ y :: Q) = (P ++ y :: M) ++ y :: Q := by simp
  rw [e2, set_app (by simp; omega)]
  simp
theorem swp_down {P M Q : List Int} {x y : Int} {i j : Nat} (hi : P.length = i) (hj : i + 1 + M.length = j) : swp (P ++ x :: (M ++ y :: Q)) j i = P ++ y :: (M ++ x :: Q) := by
  unfold swp
  have e : P ++ x :: (M ++ y :: Q) = (P ++ x :: M) ++ y :: Q := by simp
  have h1 : (P ++ x :: (M ++ y :: Q)).getD i 0 = x := getD_app hi
  have h2 : (P ++ x :: (M ++ y :: Q)).getD j 0 = y := by rw [e]; exact getD_app (by simp; omega)
  rw [h1, h2, e, set_app (P := P ++ x :: M) (by simp; omega)]
  have e2 : (P ++ x :: M) ++ x :: Q = P ++ x :: (M ++ x :: Q) := by simp
  rw [e2, set_app hi]

/-! ### two ranges change places -/
def swr (p u m v q : List Int) (i : Nat) : List Int := p ++ (v.take i ++ u.drop i) ++ m ++ (u.take i ++ v.drop i) ++ q
theorem swr_zero (p u m v q : List Int) : swr p u m v q 0 = p ++ u ++ m ++ v ++ q := by simp [swr]
theorem swr_all {p u m v q : List Int} {n : Nat} (hu : u.length = n) (hv : v.length = n) : swr p u m v q n = p ++ v ++ m ++ u ++ q := by
  unfold swr
  rw [List.take_of_length_le (by omega), List.drop_of_length_le (by omega), List.take_of_length_le (by omega), List.drop_of_length_le (by omega)]; simp
theorem swr_len {p u m v q : List Int} {n i : Nat} (hu : u.length = n) (hv : v.length = n) (hi : i ≤ n) : (swr p u m v q i).length = (p ++ u ++ m ++ v ++ q).length := by
  simp [swr]; omega
theorem swr_step {p u m v q : List Int} {n i a b : Nat} (hu : u.length = n) (hv : v.length = n) (hi : i < n) (ha : p.length = a) (hb : a + n + m.length = b) :
    swp (swr p u m v q i) (a + i) (b + i) = swr p u m v q (i + 1) := by
  have e1 : u.drop i = u[i] :: u.drop (i + 1) := List.drop_eq_getElem_cons (by omega)
  have e2 : v.drop i = v[i] :: v.drop (i + 1) := List.drop_eq_getElem_cons (by omega)
  have e3 : u.take (i + 1) = u.take i ++ [u[i]] := List.take_succ_eq_append_getElem (by omega)
  have e4 : v.take (i + 1) = v.take i ++ [v[i]] := List.take_succ_eq_append_getElem (by omega)
  have h0 : swr p u m v q i = (p ++ v.take i) ++ u[i] :: ((u.drop (i + 1) ++ m ++ u.take i) ++ v[i] :: (v.drop (i + 1) ++ q)) := by
    unfold swr; rw [e1, e2]; simp only [List.append_assoc, List.cons_append]
  rw [h0, swp_up (by simp; omega) (by simp; omega)]
  unfold swr; rw [e3, e4]; simp only [List.append_assoc, List.cons_append, List.nil_append]

/-! ### blocks -/
structure Blk (f : Int → Int) (k : Nat) (p : List Int × List Int) : Prop where
  len : p.1.length = k
  sort : SortOf f p.1 p.2
def Full (f : Int → Int) (k : Nat) (X Y : List Int) : Prop := ∃ bs : List (List Int × List Int), (∀ p ∈ bs, Blk f k p) ∧ X = (bs.map (·.1)).flatten ∧ Y = (bs.map (·.2)).flatten
def Bl (f : Int → Int) (k : Nat) (X Y : List Int) : Prop := ∃ X1 Y1 B B', Full f k X1 Y1 ∧ B.length < k ∧ SortOf f B B' ∧ X = X1 ++ B ∧ Y = Y1 ++ B'
theorem SortOf.len {f : Int → Int} {l m : List Int} (h : SortOf f l m) : m.length = l.length := h.2.length_eq
theorem Full.nil (f : Int → Int) (k : Nat) : Full f k [] [] := ⟨[], by simp, rfl, rfl⟩
theorem Full.snoc {f : Int → Int} {k : Nat} {X Y B B' : List Int} (h : Full f k X Y) (hl : B.length = k) (hs : SortOf f B B') : Full f k (X ++ B) (Y ++ B') := by
  obtain ⟨bs, h1, rfl, rfl⟩ := h
  refine ⟨bs ++ [(B, B')], fun p hp => ?_, by simp, by simp⟩
  rcases List.mem_append.1 hp with hp | hp
  · exact h1 p hp
  · obtain rfl : p = (B, B') := by simpa using hp
    exact ⟨hl, hs⟩
theorem Full.len {f : Int → Int} {k : Nat} {X Y : List Int} (h : Full f k X Y) : Y.length = X.length := by
  obtain ⟨bs, h1, rfl, rfl⟩ := h
  induction bs with
  | nil => rfl
  | cons p bs ih =>
    have := (h1 p (by simp)).sort.len
    have := ih fun q hq => h1 q (by simp [hq])
    simp only [List.map_cons, List.flatten_cons, List.length_append]; omega
theorem Bl.len {f : Int → Int} {k : Nat} {X Y : List Int} (h : Bl f k X Y) : Y.length = X.length := by
  obtain ⟨X1, Y1, B, B', h1, h2, h3, rfl, rfl⟩ := h
  have := h1.len; have := h3.len
  simp; omega
/-- the first block -/
theorem Bl.first {f : Int → Int} {k : Nat} {X Y : List Int} (h : Bl f k X Y) (hl : k ≤ X.length) : ∃ B B' X2 Y2, B.length = k ∧ SortOf f B B' ∧ Bl f k X2 Y2 ∧ X = B ++ X2 ∧ Y = B' ++ Y2 := by
  obtain ⟨X1, Y1, B, B', ⟨bs, h1, rfl, rfl⟩, h2, h3, rfl, rfl⟩ := h
  cases bs with
  | nil => simp at hl; omega
  | cons p bs =>
    refine ⟨p.1, p.2, _, _, (h1 p (by simp)).len, (h1 p (by simp)).sort, ⟨_, _, B, B', ⟨bs, fun q hq => h1 q (by simp [hq]), rfl, rfl⟩, h2, h3, rfl, rfl⟩, by simp, by simp⟩
/-- less than a block: it is sorted -/
theorem Bl.small {f : Int → Int} {k : Nat} {X Y : List Int} (h : Bl f k X Y) (hl : X.length < k) : SortOf f X Y := by
  obtain ⟨X1, Y1, B, B', ⟨bs, h1, rfl, rfl⟩, h2, h3, rfl, rfl⟩ := h
  cases bs with
  | nil => simpa using h3
  | cons p bs =>
    have := (h1 p (by simp)).len
    simp at hl; omega
theorem Bl.all {f : Int → Int} {k : Nat} {X Y : List Int} (h : Bl f k X Y) (hl : X.length ≤ k) : SortOf f X Y := by
  rcases Nat.lt_or_ge X.length k with h1 | h1
  · exact h.small h1
  · obtain ⟨B, B', X2, Y2, a1, a2, a3, rfl, rfl⟩ := h.first h1
    have h0 : X2 = [] := List.eq_nil_of_length_eq_zero (by simp at hl; omega)
    subst h0
    have : Y2 = [] := List.eq_nil_of_length_eq_zero (by have := a3.len; simpa using this)
    subst this
    simpa using a2
theorem Bl.nil {f : Int → Int} {k : Nat} (hk : 0 < k) : Bl f k [] [] := ⟨[], [], [], [], Full.nil f k, by simpa, ⟨by simp, by simp⟩, rfl, rfl⟩
theorem two_of {f : Int → Int} {B C B' C' : List Int} (h : (B ++ C).Pairwise (· < ·)) (hB : SortOf f B B') (hC : SortOf f C C') : Two f B' C' :=
  ⟨hB.1, hC.1, fun x hx y hy => (List.pairwise_append.1 h).2.2 x (hB.2.subset hx) y (hC.2.subset hy)⟩
theorem SortOf.app {f : Int → Int} {B C B' C' t : List Int} (hB : SortOf f B B') (hC : SortOf f C C') (h : SortOf f (B' ++ C') t) : SortOf f (B ++ C) t := ⟨h.1, h.2.trans (hB.2.append hC.2)⟩

/-! ### one goes in from the right -/
theorem ins_right {f : Int → Int} {m s s1 s2 : List Int} {x : Int} (hm : SortOf f m s) (hs : s = s1 ++ s2) (hx : ∀ y ∈ m, y < x) (h2 : ∀ y ∈ s2, f x < f y) (h1 : ∀ z, s1.getLast? = some z → ¬ f x < f z) : SortOf f (m ++ [x]) (s1 ++ x :: s2) := by
  have T : Two f s [x] := ⟨hm.1, by simp, fun y hy z hz => by obtain rfl : z = x := (by simpa using hz); exact hx y (hm.2.subset hy)⟩
  have key := one_right (i := s1.length) T (by rw [hs]; simp) (fun j hj => by
    have hlt : s1.length - 1 < s1.length := by omega
    have hl : s1.getLast? = some (s1[s1.length - 1]) := by rw [List.getLast?_eq_getElem?, List.getElem?_eq_getElem hlt]
    have h3 := h1 _ hl
    have h4 := key_mono hm.1 (i := j) (j := s1.length - 1) (by omega) (by rw [hs]; simp; omega)
    have h5 : s.getD (s1.length - 1) 0 = s1[s1.length - 1] := by
      rw [hs, List.getD_eq_getElem?_getD, List.getElem?_append_left hlt, List.getElem?_eq_getElem hlt, Option.getD_some]
    rw [h5] at h4; omega) (fun j hj hjl => by
    have hjl' : j - s1.length < s2.length := by rw [hs, List.length_append] at hjl; omega
    have h5 : s.getD j 0 = s2[j - s1.length] := by
      rw [hs, List.getD_eq_getElem?_getD, List.getElem?_append_right hj, List.getElem?_eq_getElem hjl', Option.getD_some]
    rw [h5]; exact h2 _ (List.getElem_mem _))
  rw [hs] at key
  simp only [List.take_left, List.drop_left] at key
  exact ⟨key.1, key.2.trans (by rw [← hs]; exact hm.2.append_right [x])⟩
theorem last_of {s : List Int} (h : s ≠ []) : ∃ s' y, s = s' ++ [y] := by
  rcases List.eq_nil_or_concat s with h0 | ⟨s', y, h0⟩
  · exact absurd h0 h
  · exact ⟨s', y, by simpa using h0⟩
theorem one_sorts (f : Int → Int) (m : List Int) : SortOf f (m.take 1) (m.take 1) := SortOf.self (by cases m <;> simp)
theorem getD_mem {l : List Int} {i : Nat} (h : i < l.length) : l.getD i 0 ∈ l := by
  rw [List.getD_eq_getElem?_getD, List.getElem?_eq_getElem h, Option.getD_some]; exact List.getElem_mem h
theorem getD_u {p u v q : List Int} {a t : Nat} (ha : p.length = a) (h1 : a ≤ t) (h2 : t < a + u.length) : (p ++ u ++ v ++ q).getD t 0 = u.getD (t - a) 0 := by
  subst ha
  rw [List.append_assoc, List.append_assoc, List.getD_eq_getElem?_getD, List.getD_eq_getElem?_getD, List.getElem?_append_right h1, List.getElem?_append_left (by omega)]
theorem getD_v {p u v q : List Int} {m t : Nat} (hm : p.length + u.length = m) (h1 : m ≤ t) (h2 : t < m + v.length) : (p ++ u ++ v ++ q).getD t 0 = v.getD (t - m) 0 := by
  have e : p ++ u ++ v ++ q = (p ++ u) ++ (v ++ q) := by simp only [List.append_assoc]
  rw [e, List.getD_eq_getElem?_getD, List.getD_eq_getElem?_getD, List.getElem?_append_right (by simp; omega), List.getElem?_append_left (by simp; omega)]
  congr 2
  simp; omega
theorem take_mem {u v : List Int} {i j : Nat} {x : Int} (h : x ∈ u.take i ++ v.take j) : x ∈ u ++ v := by
  rcases List.mem_append.1 h with h | h
  · exact List.mem_append_left _ (List.mem_of_mem_take h)
  · exact List.mem_append_right _ (List.mem_of_mem_take h)
theorem drop_mem {u v : List Int} {i j : Nat} {x : Int} (h : x ∈ u.drop i ++ v.drop j) : x ∈ u ++ v := by
  rcases List.mem_append.1 h with h | h
  · exact List.mem_append_left _ (List.mem_of_mem_drop h)
  · exact List.mem_append_right _ (List.mem_of_mem_drop h)
theorem SortOf.app2 {f : Int → Int} {X l t : List Int} (h : SortOf f l t) (hX : l.Perm X) : SortOf f X t := ⟨h.1, h.2.trans hX⟩
end Hw.Sym
