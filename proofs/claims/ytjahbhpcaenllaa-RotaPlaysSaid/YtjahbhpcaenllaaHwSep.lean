/- Memory as a list of pieces: what is owned, what is read, what is said of it; and each operation's step over such a list. -/
import Derived.Test.YtjahbhpcaenllaaHwSlice
namespace Go.Hw
open Go

/-- a piece of memory: the blocks that it owns, those that it reads, what it says -/
structure Ck where
  f : Nat → Prop
  r : Nat → Prop
  P : World → Prop
  lt : ∀ w, P w → ∀ b, f b ∨ r b → b < w.heap.size
  st : ∀ w w', (∀ b, f b ∨ r b → w'.heap[b]? = w.heap[b]?) → P w → P w'

def nth : List Ck → Nat → Option Ck
  | [], _ => none
  | c :: _, 0 => some c
  | _ :: l, i + 1 => nth l i
def put : List Ck → Nat → Ck → List Ck
  | [], _, _ => []
  | _ :: l, 0, d => d :: l
  | c :: l, i + 1, d => c :: put l i d
def pick (l : List Ck) : List Nat → List Ck
  | [] => []
  | i :: is => match nth l i with
    | some c => c :: pick l is
    | none => pick l is

theorem nth_put (l : List Ck) (i j : Nat) (d : Ck) : nth (put l i d) j = if j = i then (nth l i).map (fun _ => d) else nth l j := by
  induction l generalizing i j with
  | nil => simp [put, nth]
  | cons c l ih =>
    cases i with
    | zero => cases j <;> simp [put, nth]
    | succ i =>
      cases j with
      | zero => simp [put, nth]
      | succ j => simp [put, nth, ih]

/-- two pieces that share nothing that one of them may write -/
def Dj (a b : Ck) : Prop := ∀ k, (a.f k → ¬ (b.f k ∨ b.r k)) ∧ (b.f k → ¬ (a.f k ∨ a.r k))
theorem Dj.symm {a b : Ck} (h : Dj a b) : Dj b a := fun k => ⟨(h k).2, (h k).1⟩

structure SH (F : Nat → Prop) (w0 w : World) (l : List Ck) : Prop where
  keeps : Keeps F w0 w
  all : ∀ i c, nth l i = some c → c.P w
  dis : ∀ i j a b, i ≠ j → nth l i = some a → nth l j = some b → Dj a b
  new : ∀ i c k, nth l i = some c → c.f k → F k ∨ w0.heap.size ≤ k

section
variable {P : Program} {F : Nat → Prop} {w0 w w' : World} {l : List Ck} {i : Nat} {c c' : Ck}

theorem SH.get (h : SH F w0 w l) (hi : nth l i = some c) : c.P w := h.all i c hi
theorem SH.lt (h : SH F w0 w l) (hi : nth l i = some c) {k : Nat} (hk : c.f k ∨ c.r k) : k < w.heap.size := c.lt w (h.get hi) k hk

/-- piece i is another one now; what it did not own is as it was -/
theorem SH.upd (h : SH F w0 w l) (hi : nth l i = some c) (K : Keeps c.f w w') (hP : c'.P w') (hf : ∀ k, c'.f k → c.f k ∨ w.heap.size ≤ k) (hr : ∀ k, c'.r k → c.f k ∨ w.heap.size ≤ k) : SH F w0 w' (put l i c') := by
  have hd : ∀ j b, j ≠ i → nth l j = some b → Dj c' b := fun j b hj hb k => by
    have h1 := h.dis i j c b (Ne.symm hj) hi hb k
    have h2 : b.f k ∨ b.r k → k < w.heap.size := fun hk => h.lt hb hk
    refine ⟨fun hk hb' => ?_, fun hk hc => ?_⟩
    · rcases hf k hk with h3 | h3
      · exact h1.1 h3 hb'
      · exact absurd (h2 hb') (Nat.not_lt_of_le h3)
    · have h4 : c.f k ∨ w.heap.size ≤ k := by rcases hc with hc | hc; exact hf k hc; exact hr k hc
      rcases h4 with h3 | h3
      · exact h1.1 h3 (.inl hk)
      · exact absurd (h2 (.inl hk)) (Nat.not_lt_of_le h3)
  refine ⟨h.keeps.trans_new K fun k hk hc => ?_, fun j b hb => ?_, fun j k a b hjk ha hb => ?_, fun j b k hb hk => ?_⟩
  · rcases h.new i c k hi hc with h1 | h1
    · exact h1
    · exact absurd hk (Nat.not_lt_of_le h1)
  · rw [nth_put] at hb
    by_cases hj : j = i
    · rw [if_pos hj, hi] at hb; cases hb; exact hP
    · rw [if_neg hj] at hb
      exact b.st w w' (fun k hk => K.block k (h.lt hb hk) fun hc => ((h.dis i j c b (Ne.symm hj) hi hb k).1 hc) hk) (h.get hb)
  · rw [nth_put] at ha hb
    by_cases hj : j = i
    · by_cases hk : k = i
      · exact absurd (hj.trans hk.symm) hjk
      · rw [if_pos hj, hi] at ha; rw [if_neg hk] at hb; cases ha; exact hd k b hk hb
    · rw [if_neg hj] at ha
      by_cases hk : k = i
      · rw [if_pos hk, hi] at hb; cases hb; exact (hd j a hj ha).symm
      · rw [if_neg hk] at hb; exact h.dis j k a b hjk ha hb
  · rw [nth_put] at hb
    by_cases hj : j = i
    · rw [if_pos hj, hi] at hb; cases hb
      rcases hf k hk with h1 | h1
      · exact h.new i c k hi h1
      · exact .inr (Nat.le_trans h.keeps.size h1)
    · rw [if_neg hj] at hb; exact h.new j b k hb hk

theorem SH.keep (h : SH F w0 w l) (K : Keeps none_ w w') : SH F w0 w' l :=
  ⟨h.keeps.trans (K.mono fun _ hk => hk.elim), fun _ b hb => b.st w w' (fun k hk => K.block k (h.lt hb hk) fun hc => hc) (h.get hb), h.dis, h.new⟩

/-- one piece more, of new blocks -/
theorem SH.add (h : SH F w0 w l) (K : Keeps none_ w w') (hP : c'.P w') (hf : ∀ k, c'.f k → w.heap.size ≤ k) (hr : ∀ k, c'.r k → w.heap.size ≤ k ∨ ∀ j b, nth l j = some b → ¬ b.f k) : SH F w0 w' (c' :: l) := by
  have hk := h.keep K
  have hd : ∀ j b, nth l j = some b → Dj c' b := fun j b hb k => by
    have h2 : b.f k ∨ b.r k → k < w.heap.size := fun hk => h.lt hb hk
    refine ⟨fun hk hb' => absurd (h2 hb') (Nat.not_lt_of_le (hf k hk)), fun hk hc => ?_⟩
    rcases hc with hc | hc
    · exact absurd (h2 (.inl hk)) (Nat.not_lt_of_le (hf k hc))
    · rcases hr k hc with h3 | h3
      · exact absurd (h2 (.inl hk)) (Nat.not_lt_of_le h3)
      · exact h3 j b hb hk
  refine ⟨hk.keeps, fun j b hb => ?_, fun j k a b hjk ha hb => ?_, fun j b k hb hk' => ?_⟩
  · cases j with
    | zero => cases hb; exact hP
    | succ j => exact hk.all j b hb
  · cases j with
    | zero =>
      cases k with
      | zero => exact absurd rfl hjk
      | succ k => cases ha; exact hd k b hb
    | succ j =>
      cases k with
      | zero => cases hb; exact (hd j a ha).symm
      | succ k => exact h.dis j k a b (fun e => hjk (by rw [e])) ha hb
  · cases j with
    | zero => cases hb; exact .inr (Nat.le_trans h.keeps.size (hf k hk'))
    | succ j => exact h.new j b k hb hk'

theorem pick_spec (l : List Ck) : ∀ is : List Nat, is.Nodup → (∀ j a, nth (pick l is) j = some a → ∃ i, i ∈ is ∧ nth l i = some a) ∧
    ∀ j1 j2 a b, j1 ≠ j2 → nth (pick l is) j1 = some a → nth (pick l is) j2 = some b → ∃ i1 i2, i1 ≠ i2 ∧ nth l i1 = some a ∧ nth l i2 = some b
  | [], _ => ⟨fun j a h => by simp [pick, nth] at h, fun j1 j2 a b _ h => by simp [pick, nth] at h⟩
  | i :: is, hn => by
    have hn' := List.nodup_cons.1 hn
    obtain ⟨h1, h2⟩ := pick_spec l is hn'.2
    cases hi : nth l i with
    | none =>
      simp only [pick, hi]
      exact ⟨fun _ a h => let ⟨k, hk, e⟩ := h1 _ a h; ⟨k, List.mem_cons_of_mem _ hk, e⟩, h2⟩
    | some c =>
      simp only [pick, hi]
      refine ⟨fun j a h => ?_, fun j1 j2 a b hne ha hb => ?_⟩
      · cases j with
        | zero => cases h; exact ⟨i, List.mem_cons_self, hi⟩
        | succ j => obtain ⟨k, hk, e⟩ := h1 j a h; exact ⟨k, List.mem_cons_of_mem _ hk, e⟩
      · cases j1 with
        | zero =>
          cases j2 with
          | zero => exact absurd rfl hne
          | succ j2 =>
            cases ha
            obtain ⟨k, hk, e⟩ := h1 j2 b hb
            exact ⟨i, k, fun e => hn'.1 (e ▸ hk), hi, e⟩
        | succ j1 =>
          cases j2 with
          | zero =>
            cases hb
            obtain ⟨k, hk, e⟩ := h1 j1 a ha
            exact ⟨k, i, fun e => hn'.1 (e ▸ hk), e, hi⟩
          | succ j2 => exact h2 j1 j2 a b (fun e => hne (by rw [e])) ha hb

def nodupB : List Nat → Bool
  | [] => true
  | i :: is => is.all (fun j => !Nat.beq i j) && nodupB is
theorem nodupB_spec : ∀ {is : List Nat}, nodupB is = true → is.Nodup
  | [], _ => List.nodup_nil
  | i :: is, h => by
    simp only [nodupB, Bool.and_eq_true, List.all_eq_true, Bool.not_eq_true'] at h
    refine List.nodup_cons.2 ⟨fun hm => ?_, nodupB_spec h.2⟩
    have := h.1 i hm
    simp at this
/-- some of the pieces, in another order -/
theorem SH.sel (h : SH F w0 w l) (is : List Nat) {l' : List Ck} (hl : pick l is = l') (hn : nodupB is = true) : SH F w0 w l' := by
  subst hl
  obtain ⟨h1, h2⟩ := pick_spec l is (nodupB_spec hn)
  exact ⟨h.keeps, fun j b hb => let ⟨i, _, e⟩ := h1 j b hb; h.all i b e, fun j k a b hjk ha hb => let ⟨i1, i2, hne, e1, e2⟩ := h2 j k a b hjk ha hb; h.dis i1 i2 a b hne e1 e2,
    fun j b k hb hk => let ⟨i, _, e⟩ := h1 j b hb; h.new i b k e hk⟩
theorem SH.as {l' : List Ck} (h : SH F w0 w l) (e : l = l') : SH F w0 w l' := e ▸ h
/-- from another world on -/
theorem SH.rebase (h : SH F w0 w l) : SH (fun k => ∃ i c, nth l i = some c ∧ c.f k) w w l := ⟨Keeps.refl _ _, h.all, h.dis, fun i c _ hi hk => .inl ⟨i, c, hi, hk⟩⟩

/-! ### kinds of pieces -/
def Ck.blk (B : Nat) (cs : List Value) (e : TypeId) : Ck where
  f := (· = B)
  r := none_
  P w := At w B (.cells cs.toArray e)
  lt w h b hb := by rcases hb with hb | hb; exact hb ▸ h.lt; exact hb.elim
  st w w' h hP := (h B (.inl rfl)).trans hP
def Ck.obj (B : Nat) (o : Obj) : Ck where
  f := (· = B)
  r := none_
  P w := At w B o
  lt w h b hb := by rcases hb with hb | hb; exact hb ▸ h.lt; exact hb.elim
  st w w' h hP := (h B (.inl rfl)).trans hP
def inBlk (A : Option Addr) (b : Nat) : Prop := ∃ a, A = some a ∧ a.block = b
def Ck.row {α : Type} (A : Option Addr) (l : List α) (E : α → List Value) : Ck where
  f := none_
  r b := l.flatMap E ≠ [] ∧ inBlk A b
  P w := Row w A (l.flatMap E)
  lt w h b hb := by
    rcases hb with hb | ⟨hx, a, rfl, rfl⟩
    · exact hb.elim
    · obtain ⟨b', o', he, hc⟩ := h.at_ hx
      cases he
      cases hl : l.flatMap E with
      | nil => exact absurd hl hx
      | cons u us => exact World.block_lt_of_cell? w _ (hc 0 u (by rw [hl]; rfl))
  st w w' h hP := by
    rcases hP with hP | ⟨b, o, rfl, hc⟩
    · exact .inl hP
    · by_cases hx : l.flatMap E = []
      · exact .inl hx
      · exact .inr ⟨b, o, rfl, fun j u hu => (World.cell?_of_block (h b (.inr ⟨hx, _, rfl, rfl⟩))).trans (hc j u hu)⟩
/-- a slice whose whole block is its owner's, from its first element on -/
def OwnA {α : Type} (w : World) (e s : Nat) (A : Option Addr) (c : Nat) (l : List α) (E : α → List Value) : Prop :=
  (l.flatMap E).length = l.length * s ∧ ((A = none ∧ c = 0 ∧ l = []) ∨ ∃ g o cur, A = some ⟨g, o, none⟩ ∧ At w g (.cells cur e (0, 0)) ∧ l.length ≤ c ∧ c ≤ maxLen ∧ o + c * s ≤ cur.size ∧ (cur.toList.drop o).take (l.length * s) = l.flatMap E)
def Ck.own {α : Type} (e s : Nat) (A : Option Addr) (c : Nat) (l : List α) (E : α → List Value) : Ck where
  f b := inBlk A b
  r := none_
  P w := OwnA w e s A c l E
  lt w h b hb := by
    rcases hb with ⟨a, hA, hb⟩ | hb
    · rcases h.2 with ⟨h0, _⟩ | ⟨g, o, cur, h0, hg, _⟩
      · rw [h0] at hA; cases hA
      · rw [h0] at hA; cases hA; subst hb; exact hg.lt
    · exact hb.elim
  st w w' h hP := by
    obtain ⟨h1, h2⟩ := hP
    refine ⟨h1, ?_⟩
    rcases h2 with h2 | ⟨g, o, cur, hv, hg, r⟩
    · exact .inl h2
    · exact .inr ⟨g, o, cur, hv, (h g (.inl ⟨_, hv, rfl⟩)).trans hg, r⟩
theorem OwnA.cap {α : Type} {w : World} {e s c : Nat} {A : Option Addr} {l : List α} {E : α → List Value} (h : OwnA w e s A c l E) : l.length ≤ c := by
  rcases h.2 with ⟨_, _, rfl⟩ | ⟨g, o, cur, hv, hg, hn, _⟩
  · exact Nat.zero_le _
  · exact hn
theorem OwnA.row {α : Type} {w : World} {e s c : Nat} {A : Option Addr} {l : List α} {E : α → List Value} (h : OwnA w e s A c l E) : Row w A (l.flatMap E) := by
  rcases h.2 with ⟨_, _, rfl⟩ | ⟨g, o, cur, hv, hg, hn, hm, hs, ht⟩
  · exact .inl rfl
  · refine .inr ⟨g, o, hv, fun j u hu => ?_⟩
    rw [hg.cell, ← Array.getElem?_toList]
    have hj : j < l.length * s := by
      rcases Nat.lt_or_ge j (l.length * s) with h | h'
      · exact h
      · rw [List.getElem?_eq_none (by rw [h.1]; exact h')] at hu; cases hu
    rw [← ht, List.getElem?_take_of_lt hj, List.getElem?_drop] at hu
    exact hu
theorem OwnA.nil {α : Type} (w : World) (e s : Nat) (E : α → List Value) : OwnA w e s none 0 ([] : List α) E := ⟨by simp, .inl ⟨rfl, rfl, rfl⟩⟩

theorem SH.blk {B : Nat} {cs : List Value} {e : TypeId} (h : SH F w0 w l) (i : Nat) (hi : nth l i = some (.blk B cs e)) : At w B (.cells cs.toArray e) := h.get hi
theorem SH.cell {B : Nat} {cs : List Value} {e : TypeId} (h : SH F w0 w l) (i : Nat) (hi : nth l i = some (.blk B cs e)) {k : Nat} {v : Value} (hv : cs[k]? = some v) : w.cell? ⟨B, k, none⟩ = some v := by
  rw [(h.blk i hi).cell]; simpa using hv
theorem SH.cells {B : Nat} {cs vs : List Value} {e : TypeId} {k : Nat} (h : SH F w0 w l) (i : Nat) (hi : nth l i = some (.blk B cs e)) (hv : (cs.drop k).take vs.length = vs) : ∀ j u, vs[j]? = some u → w.cell? ⟨B, k + j, none⟩ = some u := fun j u hu => by
  refine h.cell i hi ?_
  have hj : j < vs.length := by
    rcases Nat.lt_or_ge j vs.length with h | h
    · exact h
    · rw [List.getElem?_eq_none h] at hu; cases hu
  rw [← hv, List.getElem?_take_of_lt hj, List.getElem?_drop] at hu
  exact hu
theorem SH.row {α : Type} {A : Option Addr} {xs : List α} {E : α → List Value} (h : SH F w0 w l) (i : Nat) (hi : nth l i = some (.row A xs E)) : Row w A (xs.flatMap E) := h.get hi
theorem SH.own {α : Type} {e s c : Nat} {A : Option Addr} {xs : List α} {E : α → List Value} (h : SH F w0 w l) (i : Nat) (hi : nth l i = some (.own e s A c xs E)) : OwnA w e s A c xs E := h.get hi
theorem SH.ownrow {α : Type} {e s c : Nat} {A : Option Addr} {xs : List α} {E : α → List Value} (h : SH F w0 w l) (i : Nat) (hi : nth l i = some (.own e s A c xs E)) : Row w A (xs.flatMap E) := (h.own i hi).row
end

/-! ### encoders, elements -/
structure Enc {α : Type} (E : α → List Value) (s : Nat) : Prop where
  len : ∀ x, (E x).length = s + 1
  one : ∀ x, (E x).all (·.oneCell') = true

def eInt (k : IntKind) (x : Int) : List Value := [.int k x]
theorem eInt_ok (k : IntKind) : Enc (eInt k) 0 := ⟨fun _ => rfl, fun _ => rfl⟩
def eBool (x : Bool) : List Value := [.bool x]
theorem eBool_ok : Enc eBool 0 := ⟨fun _ => rfl, fun _ => rfl⟩

/-- the element at a place, if it is one -/
def idx {α : Type} (l : List α) (i : Int) : Option α := if 0 ≤ i then l[i.toNat]? else none
def inr (n : Nat) (i : Int) : Prop := 0 ≤ i ∧ i < (n : Int)
instance (n : Nat) (i : Int) : Decidable (inr n i) := inferInstanceAs (Decidable (_ ∧ _))
theorem idx_inr {α : Type} {l : List α} {i : Int} {x : α} (h : idx l i = some x) : inr l.length i := by
  unfold idx at h
  split at h
  · rename_i h0
    have := (List.getElem?_eq_some_iff.1 h).1
    exact ⟨h0, by omega⟩
  · cases h
theorem idx_get {α : Type} {l : List α} {i : Int} {x : α} (h : idx l i = some x) : l[i.toNat]? = some x := by
  unfold idx at h
  split at h
  · exact h
  · cases h
theorem inr_idx {α : Type} {l : List α} {i : Int} (h : inr l.length i) (d : α) : idx l i = some (l.getD i.toNat d) := by
  obtain ⟨h0, h1⟩ := h
  unfold idx
  rw [if_pos h0, List.getElem?_eq_getElem (by omega), List.getD_eq_getElem?_getD, List.getElem?_eq_getElem (by omega)]
  rfl

/-- an address so many cells on -/
def ea (A : Option Addr) (n : Nat) : Option Addr := A.map fun a => ⟨a.block, a.off + n, none⟩
def IsA (A : Option Addr) : Prop := ∃ b o, A = some ⟨b, o, none⟩
def rd (w : World) (A : Option Addr) (n : Nat) : Option Value := (ea A n).bind w.cell?

theorem flat_at {α : Type} {E : α → List Value} {s : Nat} (hE : ∀ x, (E x).length = s) : ∀ {l : List α} {i : Nat} {x : α}, l[i]? = some x → ∀ j u, (E x)[j]? = some u → (l.flatMap E)[i * s + j]? = some u
  | [], i, x, h, _, _, _ => by simp at h
  | y :: l, 0, x, h, j, u, hu => by
    simp at h; subst h
    have hj : j < (E y).length := by
      rcases Nat.lt_or_ge j (E y).length with h | h
      · exact h
      · rw [List.getElem?_eq_none h] at hu; cases hu
    rw [List.flatMap_cons, Nat.zero_mul, Nat.zero_add, List.getElem?_append_left hj]; exact hu
  | y :: l, i + 1, x, h, j, u, hu => by
    have h' : l[i]? = some x := by simpa using h
    rw [List.flatMap_cons, List.getElem?_append_right (by rw [hE, Nat.add_mul]; omega), hE]
    have : (i + 1) * s + j - s = i * s + j := by rw [Nat.add_mul]; omega
    rw [this]; exact flat_at hE h' j u hu

section
variable {w : World} {α : Type} {A : Option Addr} {l : List α} {E : α → List Value} {s : Nat}
theorem el_isA (hE : Enc E s) (hr : Row w A (l.flatMap E)) {i : Int} {x : α} (hx : idx l i = some x) : IsA A := by
  have h1 := idx_get hx
  have hne : l.flatMap E ≠ [] := fun h => by
    have := flat_at (fun x => hE.len x) h1 0 ((E x)[0]'(by rw [hE.len]; omega)) (List.getElem?_eq_getElem _)
    rw [h] at this; cases this
  obtain ⟨b, o, hA, _⟩ := hr.at_ hne
  exact ⟨b, o, hA⟩
theorem el_rd (hE : Enc E s) (hr : Row w A (l.flatMap E)) {i : Int} {x : α} (hx : idx l i = some x) {j : Nat} {u : Value} (hu : (E x)[j]? = some u) : rd w A (i.toNat * (s + 1) + j) = some u := by
  have h1 := flat_at (fun x => hE.len x) (idx_get hx) j u hu
  have hne : l.flatMap E ≠ [] := fun h => by rw [h] at h1; cases h1
  obtain ⟨b, o, hA, hc⟩ := hr.at_ hne
  subst hA
  exact hc _ u h1
theorem el_rds (hE : Enc E s) (hr : Row w A (l.flatMap E)) {i : Int} {x : α} (hx : idx l i = some x) {k : Nat} {vs : List Value} (hv : ((E x).drop k).take vs.length = vs) : ∀ j u, vs[j]? = some u → rd w A (i.toNat * (s + 1) + k + j) = some u := fun j u hu => by
  rw [Nat.add_assoc]
  refine el_rd hE hr hx ?_
  have hj : j < vs.length := by
    rcases Nat.lt_or_ge j vs.length with h | h
    · exact h
    · rw [List.getElem?_eq_none h] at hu; cases hu
  rw [← hv, List.getElem?_take_of_lt hj, List.getElem?_drop] at hu
  exact hu
end

section
variable {P : Program} {w : World} {ρ : Operand → Value} {d : Option Tmp} {ty t t' e : TypeId} {ps : String} {af : Array Edge} {g : Option (Nat × Bool)} {x y z : Operand} {v zv : Value} {s b n m c : Nat} {A : Option Addr} {k : IntKind} {a : Int}

theorem X_indexAddrE {k' : IntKind} {i : Int} (hu : P.underlying t = some (.slice e)) (hi : Inf P e zv s b) (hx : ρ x = .slice A n c) (hy : ρ y = .int k' i) (h : inr n i) (hA : IsA A) :
    (execOp ρ ⟨d, .indexAddr t x y, ty, ps, af, g⟩).run P w = .ok (.value (.pointer (ea A (i.toNat * s)))) w := by
  obtain ⟨bl, o, rfl⟩ := hA
  obtain ⟨j, rfl⟩ : ∃ j : Nat, i = j := ⟨i.toNat, by have := h.1; omega⟩
  exact X_indexAddr hu hi hx hy (by have := h.2; omega)
theorem X_fieldAddrE {fs : Array Field} {f : Field} {i m r : Nat} {s' b' : Nat} (hu : P.underlying t = some (.struct fs)) (hf : fs[i]? = some f) (hi : Inf P f.type zv (s' + 1) b') (hx : ρ x = .pointer (ea A m)) (hA : IsA A) (hr : m + f.offset = r) :
    (execOp ρ ⟨d, .fieldAddr t x i, ty, ps, af, g⟩).run P w = .ok (.value (.pointer (ea A r))) w := by
  obtain ⟨bl, o, rfl⟩ := hA
  exact X_fieldAddr hu hf hi hx (by rw [← hr, Nat.add_assoc])
theorem X_loadE {td : TypeDesc} (hu : P.underlying t = some td) (hd : aggB td = false) (hx : ρ x = .pointer (ea A m)) (hc : rd w A m = some v) : (execOp ρ ⟨d, .load t x, ty, ps, af, g⟩).run P w = .ok (.value v) w := by
  cases A with
  | none => simp [rd, ea] at hc
  | some a => exact X_load hu hd hx hc
theorem X_loadAggE {td : TypeDesc} (cs : List Value) (hu : P.underlying t = some td) (hd : aggB td = true) (hi : Inf P t zv cs.length b) (hx : ρ x = .pointer (ea A m)) (hA : IsA A)
    (hc : ∀ j u, cs[j]? = some u → rd w A (m + j) = some u) : (execOp ρ ⟨d, .load t x, ty, ps, af, g⟩).run P w = .ok (.value (.agg cs.toArray)) w := by
  obtain ⟨bl, o, rfl⟩ := hA
  exact X_loadAgg cs hu hd hi hx (fun j u hu => by rw [Nat.add_assoc]; exact hc j u hu)
end

/-! ### what an operation does, in short -/
/-- the operation leaves a value, and a world, of which R holds -/
def EX (P : Program) (φ : Fr) (o : Oper) (w : World) (R : Value → World → Prop) : Prop := ∃ v w', (execOp (ev φ) o).run P w = .ok (.value v) w' ∧ R v w'
def EXs (P : Program) (φ : Fr) (o : Oper) (w : World) (R : World → Prop) : Prop := ∃ w', (execOp (ev φ) o).run P w = .ok .skip w' ∧ R w'

section
variable {P : Program} {n : Nat} {Q : Exit → Fr → World → Prop} {φ : Fr} {w : World} {ops : Array Oper} {o : Oper} {rest : List Oper} {R : Value → World → Prop} {R' : World → Prop}
theorem RL.ex (hg : o.guard = none) (hx : EX P φ o w R) {dd : Nat} (hd : Dst n o.dst dd) (h : ∀ v w', R v w' → RL P n ops rest Q (upd φ dd v) w') : RL P n ops (o :: rest) Q φ w := by
  obtain ⟨v, w', h1, h2⟩ := hx
  exact RL.eff hg h1 hd (h v w' h2)
theorem RL.exs (hg : o.guard = none) (hx : EXs P φ o w R') (hd : o.dst = none) (h : ∀ w', R' w' → RL P n ops rest Q φ w') : RL P n ops (o :: rest) Q φ w := by
  obtain ⟨w', h1, h2⟩ := hx
  exact RL.store hg h1 hd (h w' h2)
variable {S : Array Bool → World → Prop} {fuel i : Nat} {L : Array Bool}
theorem RS.ex (hr : (Region.ready .any ops L).contains i = true) (hc : Closed .any ops L) (hi : ops[i]? = some o) (hg : o.guard = none) (hx : EX P φ o w R) {dd : Nat} (hd : Dst n o.dst dd)
    (h : ∀ v w', R v w' → S (L.setIfInBounds i true) w' ∧ (Closed .any ops (L.setIfInBounds i true) → S (L.setIfInBounds i true) w' → RD P n ops S Q fuel (L.setIfInBounds i true) (upd φ dd v) w')) : RS P n ops S Q fuel L φ w i := by
  obtain ⟨v, w', h1, h2⟩ := hx
  obtain ⟨h3, h4⟩ := h v w' h2
  exact RS.eff hr hc hi hg h1 hd h3 fun hcl => h4 hcl h3
theorem RS.exs (hr : (Region.ready .any ops L).contains i = true) (hc : Closed .any ops L) (hi : ops[i]? = some o) (hg : o.guard = none) (hx : EXs P φ o w R') (hd : o.dst = none)
    (h : ∀ w', R' w' → S (L.setIfInBounds i true) w' ∧ (Closed .any ops (L.setIfInBounds i true) → S (L.setIfInBounds i true) w' → RD P n ops S Q fuel (L.setIfInBounds i true) φ w')) : RS P n ops S Q fuel L φ w i := by
  obtain ⟨w', h1, h2⟩ := hx
  obtain ⟨h3, h4⟩ := h w' h2
  exact RS.store hr hc hi hg h1 hd h3 fun hcl => h4 hcl h3

variable {F : Nat → Prop} {w0 : World} {l : List Ck} {d : Option Tmp} {ty t e : TypeId} {ps : String} {af : Array Edge} {g : Option (Nat × Bool)} {x y : Operand} {v zv : Value} {s b c m : Nat} {A : Option Addr}

theorem S_alloc (hM : SH F w0 w l) (cs : List Value) (hi : Inf P t zv s b) (hz : zv.cells = cs.toArray) :
    EX P φ ⟨d, .alloc t, ty, ps, af, g⟩ w fun v w' => ∃ B, v = .pointer (some ⟨B, 0, none⟩) ∧ SH F w0 w' (.blk B cs t :: l) ∧ Keeps none_ w w' :=
  ⟨_, _, X_alloc hi, w.heap.size, rfl, hM.add (Keeps.alloc _ _ _) (by rw [hz]; exact At.new _ _) (fun k hk => Nat.le_of_eq (Eq.symm hk)) (fun k hk => hk.elim), Keeps.alloc _ _ _⟩
theorem S_box (hM : SH F w0 w l) (cs : List Value) (hx : ev φ x = v) (hz : v.cells = cs.toArray) :
    EX P φ ⟨d, .box t x, ty, ps, af, g⟩ w fun v w' => ∃ B, v = .pointer (some ⟨B, 0, none⟩) ∧ SH F w0 w' (.blk B cs t :: l) ∧ Keeps none_ w w' :=
  ⟨_, _, X_box hx, w.heap.size, rfl, hM.add (Keeps.alloc _ _ _) (by rw [hz]; exact At.new _ _) (fun k hk => Nat.le_of_eq (Eq.symm hk)) (fun k hk => hk.elim), Keeps.alloc _ _ _⟩

def spl (cs : List Value) (p : Nat) (vs : List Value) : List Value := cs.take p ++ vs ++ cs.drop (p + vs.length)
theorem S_store (hM : SH F w0 w l) (i : Nat) {B p : Nat} {cs : List Value} (vs cs' : List Value) (hc : nth l i = some (.blk B cs e)) (hi : Inf P t zv s b) (hx : ev φ x = .pointer (some ⟨B, p, none⟩)) (hy : ev φ y = v) (hv : v.cells = vs.toArray) (hs : Nat.beq vs.length s = true) (h1 : vs.all (·.oneCell') = true)
    (hp : Nat.ble (p + s) cs.length = true) (hcs : spl cs p vs = cs') :
    EXs P φ ⟨d, .store t x y, ty, ps, af, g⟩ w fun w' => SH F w0 w' (put l i (.blk B cs' e)) ∧ Keeps (· = B) w w' := by
  have hs' := Nat.eq_of_beq_eq_true hs
  have hp' := Nat.le_of_ble_eq_true hp
  obtain ⟨w', h2, h3, h4⟩ := X_storeAt (d := d) (ty := ty) (ps := ps) (af := af) (gd := g) hi hx hy (by rw [hv]; simpa using hs') (by rw [hv]; exact h1) (hM.blk i hc) (by simpa using hp')
  refine ⟨w', h2, hM.upd hc h4 (c' := .blk B cs' e) ?_ (fun k hk => .inl hk) (fun k hk => hk.elim), h4⟩
  subst hcs
  rw [hv] at h3
  simpa [Ck.blk, splice, spl] using h3

theorem set_flat {α : Type} {E : α → List Value} {s : Nat} (hE : ∀ x, (E x).length = s) : ∀ {l : List α} {i : Nat} (x : α), i < l.length → (l.set i x).flatMap E = (l.flatMap E).take (i * s) ++ E x ++ (l.flatMap E).drop (i * s + s)
  | [], i, x, h => by simp at h
  | y :: l, 0, x, _ => by simp [List.drop_left' (hE y)]
  | y :: l, i + 1, x, h => by
    have ih := set_flat hE x (show i < l.length by simpa using h)
    simp only [List.set_cons_succ, List.flatMap_cons, ih]
    have h1 : (i + 1) * s = (E y).length + i * s := by rw [hE, Nat.add_mul]; omega
    rw [h1, Nat.add_assoc, List.take_length_add_append, List.drop_length_add_append]
    simp

theorem take_splice {cur : List Value} {p N : Nat} {vs : List Value} (h : p + vs.length ≤ N) (hN : N ≤ cur.length) : (cur.take p ++ vs ++ cur.drop (p + vs.length)).take N = (cur.take N).take p ++ vs ++ (cur.take N).drop (p + vs.length) := by
  rw [List.take_take, Nat.min_eq_left (by omega), List.append_assoc, List.append_assoc, List.take_append]
  simp only [List.length_take, Nat.min_eq_left (show p ≤ cur.length by omega)]
  rw [List.take_of_length_le (by simp; omega), List.take_append, List.take_of_length_le (show vs.length ≤ N - p by omega), List.drop_take]
  congr 3; omega

theorem flat_splice (X : List Value) (p k N : Nat) (vs : List Value) (h : k + vs.length ≤ N) :
    X.take p ++ (((X.drop p).take N).take k ++ vs ++ ((X.drop p).take N).drop (k + vs.length)) ++ X.drop (p + N) = X.take (p + k) ++ vs ++ X.drop (p + k + vs.length) := by
  have h1 : ((X.drop p).take N).take k = (X.drop p).take k := by rw [List.take_take, Nat.min_eq_left (by omega)]
  have h2 : ((X.drop p).take N).drop (k + vs.length) = (X.drop (p + k + vs.length)).take (N - (k + vs.length)) := by
    rw [List.drop_take, List.drop_drop]; congr 2; omega
  have h3 : X.drop (p + N) = (X.drop (p + k + vs.length)).drop (N - (k + vs.length)) := by rw [List.drop_drop]; congr 1; omega
  rw [h1, h2, h3, List.take_add]
  simp only [List.append_assoc, List.take_append_drop]

theorem drop_splice (cur : List Value) (o p : Nat) (vs : List Value) (h : o ≤ p) (hp : p ≤ cur.length) : (cur.take p ++ vs ++ cur.drop (p + vs.length)).drop o = (cur.drop o).take (p - o) ++ vs ++ (cur.drop o).drop (p - o + vs.length) := by
  rw [List.append_assoc, List.drop_append_of_le_length (by simp; omega), List.drop_take, List.append_assoc, List.drop_drop]
  congr 3; omega

/-- a store into an element of a slice that is owned: cells k.. of element i -/
theorem S_storeE {α : Type} {xs : List α} {E : α → List Value} (hM : SH F w0 w l) (j : Nat) {i : Int} {k : Nat} {x0 : α} (x1 : α) (vs : List Value) (hc : nth l j = some (.own e (s + 1) A c xs E)) (hE : Enc E s) (hx0 : idx xs i = some x0) {s' : Nat} (hi : Inf P t zv s' b)
    (hx : ev φ x = .pointer (ea A (i.toNat * (s + 1) + k))) (hy : ev φ y = v) (hv : v.cells = vs.toArray) (hs : Nat.beq vs.length s' = true) (h1 : vs.all (·.oneCell') = true) (hp : Nat.ble (k + s') (s + 1) = true) (hcs : spl (E x0) k vs = E x1) :
    EXs P φ ⟨d, .store t x y, ty, ps, af, g⟩ w fun w' => SH F w0 w' (put l j (.own e (s + 1) A c (xs.set i.toNat x1) E)) ∧ Keeps (fun k => A.map (·.block) = some k) w w' := by
  have hs' := Nat.eq_of_beq_eq_true hs
  have hp' := Nat.le_of_ble_eq_true hp
  have hin := idx_inr hx0
  have hg0 := idx_get hx0
  have hlt : i.toNat < xs.length := by have := hin.1; have := hin.2; omega
  have ho := hM.own j hc
  obtain ⟨hl, h2⟩ := ho
  rcases h2 with ⟨_, _, h0⟩ | ⟨gg, o, cur, hv', hg, hnc, hm, hsz, ht⟩
  · rw [h0] at hlt; simp at hlt
  · subst hv'
    have hbd : (i.toNat + 1) * (s + 1) ≤ xs.length * (s + 1) := Nat.mul_le_mul_right _ (by omega)
    have hcb : xs.length * (s + 1) ≤ c * (s + 1) := Nat.mul_le_mul_right _ hnc
    have hexp : (i.toNat + 1) * (s + 1) = i.toNat * (s + 1) + (s + 1) := by rw [Nat.add_mul]; omega
    have hx' : ev φ x = .pointer (some ⟨gg, o + (i.toNat * (s + 1) + k), none⟩) := by rw [hx]; simp [ea]
    obtain ⟨w', h2, h3, h4⟩ := X_storeAt (d := d) (ty := ty) (ps := ps) (af := af) (gd := g) hi hx' hy (by rw [hv]; simpa using hs') (by rw [hv]; exact h1) hg (by omega)
    refine ⟨w', h2, hM.upd hc (h4.mono fun q hq => by subst hq; exact ⟨_, rfl, rfl⟩) (c' := .own e (s + 1) (some ⟨gg, o, none⟩) c (xs.set i.toNat x1) E) ?_ (fun q hq => .inl hq) (fun q hq => hq.elim), h4.mono fun q hq => by subst hq; rfl⟩
    have hflat : (xs.set i.toNat x1).flatMap E = (xs.flatMap E).take (i.toNat * (s + 1) + k) ++ vs ++ (xs.flatMap E).drop (i.toNat * (s + 1) + k + vs.length) := by
      rw [set_flat (fun x => hE.len x) x1 hlt, ← hcs]
      have hlen0 : (E x0).length = s + 1 := hE.len x0
      have hfx : ((xs.flatMap E).drop (i.toNat * (s + 1))).take (s + 1) = E x0 := by
        refine List.ext_getElem? fun q => ?_
        rcases Nat.lt_or_ge q (s + 1) with hq | hq
        · rw [List.getElem?_take_of_lt hq, List.getElem?_drop]
          exact (flat_at (fun x => hE.len x) hg0 q _ (List.getElem?_eq_getElem (by rw [hlen0]; exact hq))).trans (List.getElem?_eq_getElem (by rw [hlen0]; exact hq)).symm
        · rw [List.getElem?_eq_none (by simp; omega), List.getElem?_eq_none (by omega)]
      unfold spl
      rw [← hfx]
      exact flat_splice _ _ _ _ _ (by omega)
    refine ⟨flat_len E (s + 1) hE.len _, .inr ⟨gg, o, _, rfl, h3, by rw [List.length_set]; exact hnc, hm, ?_, ?_⟩⟩
    · rw [hv, size_splice (by simp; omega)]; exact hsz
    · rw [hv, List.length_set, hflat, ← ht]
      show ((splice cur _ vs).toList.drop o).take _ = _
      unfold splice
      rw [List.toList_toArray, drop_splice _ _ _ _ (by omega) (by simp; omega)]
      have e1 : o + (i.toNat * (s + 1) + k) - o = i.toNat * (s + 1) + k := by omega
      rw [e1]
      exact take_splice (by omega) (by simp; omega)
end
end Go.Hw
