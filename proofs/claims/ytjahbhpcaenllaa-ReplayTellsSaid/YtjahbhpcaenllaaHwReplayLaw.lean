/- Who rides, who waits, where cars are: plain lists. -/
import Derived.Test.YtjahbhpcaenllaaHwModel
namespace Go.Hw

/-- the legs' ticks rise -/
def Rises (l : List Leg) : Prop := l.Pairwise fun a b => a.tick < b.tick
/-- p legs are there by a tick -/
structure Upto (l : List Leg) (t : Int) (p : Nat) : Prop where
  le : p ≤ l.length
  a : ∀ i (h : i < l.length), i < p → l[i].tick ≤ t
  b : ∀ i (h : i < l.length), p ≤ i → t < l[i].tick

theorem Rises.lt {l : List Leg} (h : Rises l) {i j : Nat} (hij : i < j) (hj : j < l.length) : l[i].tick < l[j].tick :=
  List.pairwise_iff_getElem.1 h i j (by omega) hj hij

/-- where a car is by a tick, as the document has it: by the last leg -/
def lastLeg (l : List Leg) (t : Int) : Option Leg := (l.filter fun g => decide (g.tick ≤ t)).getLast?
def legAt (g : Leg) (t : Int) : Int := g.pos + g.dir * (t - g.tick)

theorem Upto.filter {l : List Leg} {t : Int} {p : Nat} (h : Upto l t p) : (l.filter fun g => decide (g.tick ≤ t)) = l.take p := by
  have e : l = l.take p ++ l.drop p := (List.take_append_drop p l).symm
  conv => lhs; rw [e]
  rw [List.filter_append]
  have h1 : (l.take p).filter (fun g => decide (g.tick ≤ t)) = l.take p := by
    rw [List.filter_eq_self]
    intro g hg
    obtain ⟨i, hi, rfl⟩ := List.getElem_of_mem hg
    simp only [List.length_take] at hi
    rw [List.getElem_take]
    exact decide_eq_true (h.a i (by omega) (by omega))
  have h2 : (l.drop p).filter (fun g => decide (g.tick ≤ t)) = [] := by
    rw [List.filter_eq_nil_iff]
    intro g hg
    obtain ⟨i, hi, rfl⟩ := List.getElem_of_mem hg
    simp only [List.length_drop] at hi
    rw [List.getElem_drop]
    have := h.b (p + i) (by omega) (by omega)
    simp; omega
  rw [h1, h2, List.append_nil]
theorem Upto.last {l : List Leg} {t : Int} {p : Nat} (h : Upto l t p) : lastLeg l t = if hp : 0 < p then some (l[p - 1]'(by have := h.le; omega)) else none := by
  unfold lastLeg
  rw [h.filter]
  split
  · rename_i hp
    have hle := h.le
    rw [List.getLast?_eq_getElem?, List.length_take, show min p l.length - 1 = p - 1 by omega, List.getElem?_take_of_lt (by omega), List.getElem?_eq_getElem (by omega)]
  · rename_i hp
    have : p = 0 := by omega
    subst this; rfl
theorem lastLeg_snoc (l : List Leg) (t : Int) (k : Nat) (hk : k < l.length) : lastLeg (l.take (k + 1)) t = if l[k].tick ≤ t then some l[k] else lastLeg (l.take k) t := by
  unfold lastLeg
  rw [List.take_succ_eq_append_getElem hk, List.filter_append]
  by_cases h : l[k].tick ≤ t
  · rw [if_pos h, List.filter_cons_of_pos (by simpa using h)]
    simp
  · rw [if_neg h, List.filter_cons_of_neg (by simpa using h)]
    simp

/-! ### rows by a test -/
def sel (f : Trip → Bool) (l : List Trip) : List Int := (l.filter f).map (·.id)
theorem sel_snoc (f : Trip → Bool) (l : List Trip) (k : Nat) (h : k < l.length) : sel f (l.take (k + 1)) = sel f (l.take k) ++ (bif f l[k] then [l[k].id] else []) := by
  unfold sel
  rw [List.take_succ_eq_append_getElem h, List.filter_append, List.map_append]
  by_cases e : f l[k] <;> simp [e]
theorem sel_len (f : Trip → Bool) (l : List Trip) (k : Nat) : (sel f (l.take k)).length ≤ k := by
  unfold sel
  rw [List.length_map]
  exact Nat.le_trans (List.length_filter_le _ _) (by simp; omega)

def loadB (car tick : Int) (t : Trip) : Bool := bif (bif (bif decide (t.car = car) then decide (0 ≤ t.board) else false) then decide (t.board ≤ tick) else false) then (bif decide (t.alight < 0) then true else decide (tick < t.alight)) else false
def waitB (tick : Int) (t : Trip) : Bool := bif decide (t.arrive ≤ tick) then (bif decide (t.board < 0) then true else decide (tick < t.board)) else false
def doneB (tick : Int) (t : Trip) : Bool := bif decide (0 ≤ t.alight) then decide (t.alight ≤ tick) else false

/-! ### rows of legs -/
structure LegsAt (w : Go.World) (A : Option Go.Addr) (ls : List (List Leg)) (hs : List Go.Value) : Prop where
  row : Row w A (hs.map id)
  len : hs.length = ls.length
  at_ : ∀ i (h : i < ls.length), ∃ B c, hs[i]? = some (.slice B ls[i].length c) ∧ Row w B (ls[i].flatMap Leg.enc)
theorem LegsAt.get {w : Go.World} {A : Option Go.Addr} {ls : List (List Leg)} {hs : List Go.Value} (h : LegsAt w A ls hs) {i : Nat} (hi : i < ls.length) :
    ∃ b o B c, A = some ⟨b, o, none⟩ ∧ w.cell? ⟨b, o + i * 1, none⟩ = some (.slice B ls[i].length c) ∧ Row w B (ls[i].flatMap Leg.enc) := by
  obtain ⟨B, c, h1, h2⟩ := h.at_ i hi
  have hi' : i < hs.length := by have := h.len; omega
  obtain ⟨b, o, hA, hc⟩ := h.row.elem1 hi'
  refine ⟨b, o, B, c, hA, ?_, h2⟩
  have := hc i hi'
  rw [List.getElem?_eq_getElem hi'] at h1
  rw [this]
  simpa using h1
theorem LegsAt.keep {w w' : Go.World} {A : Option Go.Addr} {ls : List (List Leg)} {hs : List Go.Value} (h : LegsAt w A ls hs) (hK : Keeps none_ w w') : LegsAt w' A ls hs :=
  ⟨h.row.keep hK (apart_none _), h.len, fun i hi => let ⟨B, c, h1, h2⟩ := h.at_ i hi; ⟨B, c, h1, h2.keep hK (apart_none _)⟩⟩
def posAt (l : List Leg) (t : Int) : Int := match lastLeg l t with
  | some g => legAt g t
  | none => 0
theorem Upto.pos0 {l : List Leg} {t : Int} (h : Upto l t 0) : posAt l t = 0 := by
  unfold posAt; rw [h.last, dif_neg (by omega)]
theorem Upto.pos {l : List Leg} {t : Int} {q : Nat} (h : Upto l t (q + 1)) (hq : q < l.length) : posAt l t = l[q].pos + l[q].dir * (t - l[q].tick) := by
  unfold posAt; rw [h.last, dif_pos (by omega)]; rfl
structure LegOk (g : Leg) : Prop where
  tick : -1073741824 ≤ g.tick ∧ g.tick ≤ 1073741824
  pos : -1073741824 ≤ g.pos ∧ g.pos ≤ 1073741824
  dir : -1 ≤ g.dir ∧ g.dir ≤ 1
theorem dir_mul {d x : Int} (h : -1 ≤ d ∧ d ≤ 1) : d * x = x ∨ d * x = 0 ∨ d * x = -x := by
  have : d = -1 ∨ d = 0 ∨ d = 1 := by omega
  rcases this with rfl | rfl | rfl <;> simp
structure TripOk (i : Nat) (t : Trip) : Prop where
  id : t.id = i
  lo : -1073741824 ≤ t.arrive ∧ -1073741824 ≤ t.board ∧ -1073741824 ≤ t.alight
  hi : t.arrive ≤ 1073741824 ∧ t.board ≤ 1073741824 ∧ t.alight ≤ 1073741824
structure LegsOk (l : List Leg) : Prop where
  len : l.length ≤ 61
  rises : Rises l
  ok : ∀ i (h : i < l.length), LegOk l[i]
structure FewOk (l : List Trip) (ls : List (List Leg)) : Prop where
  len : l.length ≤ 60
  len2 : ls.length ≤ 16
  trip : ∀ i (h : i < l.length), TripOk i l[i]
  legs : ∀ i (h : i < ls.length), LegsOk ls[i]

theorem mn3 {a b c m : Int} (h : decide (mn (mn a b) c < m) = false) : m ≤ a ∧ m ≤ b ∧ m ≤ c := by
  have h := of_decide_eq_false h
  unfold mn at h; repeat' split at h
  all_goals omega
theorem mx3 {a b c m : Int} (h : decide (m < mx (mx a b) c) = false) : a ≤ m ∧ b ≤ m ∧ c ≤ m := by
  have h := of_decide_eq_false h
  unfold mx at h; repeat' split at h
  all_goals omega
theorem mn2 {a b m : Int} (h : decide (mn a b < m) = false) : m ≤ a ∧ m ≤ b := by
  have h := of_decide_eq_false h
  unfold mn at h; repeat' split at h
  all_goals omega
theorem mx2 {a b m : Int} (h : decide (m < mx a b) = false) : a ≤ m ∧ b ≤ m := by
  have h := of_decide_eq_false h
  unfold mx at h; repeat' split at h
  all_goals omega

theorem rises_of {l : List Leg} (h : ∀ i, i < l.length → 0 < i → ∀ (h : i < l.length), l[i-1].tick < l[i].tick) : Rises l := by
  refine List.pairwise_iff_getElem.2 fun i j hi hj hij => ?_
  induction j with
  | zero => omega
  | succ j ih =>
    have h1 := h (j + 1) hj (by omega) hj
    simp only [Nat.add_sub_cancel] at h1
    by_cases e : i = j
    · subst e; exact h1
    · have := ih (by omega) (by omega); omega

theorem posAt_snoc (l : List Leg) (t : Int) (k : Nat) (hk : k < l.length) : posAt (l.take (k + 1)) t = if l[k].tick ≤ t then l[k].pos + l[k].dir * (t - l[k].tick) else posAt (l.take k) t := by
  unfold posAt
  rw [lastLeg_snoc l t k hk]
  split
  · rename_i h; split at h
    · cases h; rw [if_pos (by assumption)]; rfl
    · rw [if_neg (by assumption), h]
  · rename_i h; split at h
    · cases h
    · rw [if_neg (by assumption), h]

end Go.Hw
