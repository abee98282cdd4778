/- What lies behind a pointer: pieces handed to a call and taken back; pieces that are only read. -/
import Derived.Test.YtjahbhpcaenllaaHwMpR
namespace Go.Hw
open Go

/-- what some pieces own -/
def ftl (l : List Ck) (k : Nat) : Prop := ∃ i c, nth l i = some c ∧ c.f k
/-- none of the pieces reads what it does not own -/
def AllOwn : List Ck → Prop
  | [] => True
  | c :: l => (∀ k, ¬ c.r k) ∧ AllOwn l
theorem AllOwn.at_ : ∀ {l : List Ck}, AllOwn l → ∀ {i c}, nth l i = some c → ∀ k, ¬ c.r k
  | [], _, i, c, h => by simp [nth] at h
  | a :: l, h, 0, c, hc => by cases hc; exact h.1
  | a :: l, h, i + 1, c, hc => AllOwn.at_ h.2 hc

theorem nth_append (l l2 : List Ck) (i : Nat) : nth (l ++ l2) i = if i < l.length then nth l i else nth l2 (i - l.length) := by
  induction l generalizing i with
  | nil => simp
  | cons a l ih =>
    cases i with
    | zero => simp [nth]
    | succ i => simp [nth, ih]
theorem nth_lt : ∀ {l : List Ck} {i : Nat} {c : Ck}, nth l i = some c → i < l.length
  | [], i, c, h => by simp [nth] at h
  | a :: l, 0, c, h => by simp
  | a :: l, i + 1, c, h => by have := nth_lt (l := l) (i := i) h; simp; omega

def apartB : List Nat → List Nat → Bool
  | [], _ => true
  | i :: is, rs => rs.all (fun j => !Nat.beq i j) && apartB is rs
theorem apartB_spec : ∀ {is rs : List Nat}, apartB is rs = true → ∀ i ∈ is, i ∉ rs
  | [], rs, _, i, hi => by cases hi
  | a :: is, rs, h, i, hi => by
    simp only [apartB, Bool.and_eq_true, List.all_eq_true, Bool.not_eq_true'] at h
    rcases List.mem_cons.1 hi with hi | hi
    · subst hi
      intro hm
      have := h.1 i hm
      simp at this
    · exact apartB_spec h.2 i hi

section
variable {F : Nat → Prop} {w0 w w' : World} {L l l' rest : List Ck}
theorem SH.part (h : SH F w0 w L) (is : List Nat) (hl : pick L is = l) (hn : nodupB is = true) : SH (ftl l) w w l := by
  have h1 := h.sel is hl hn
  exact ⟨Keeps.refl _ _, h1.all, h1.dis, fun i c k hi hk => .inl ⟨i, c, hi, hk⟩⟩
/-- behind a call that had some of the pieces -/
theorem SH.called (h : SH F w0 w L) (is rs : List Nat) (hl : pick L is = l) (hr : pick L rs = rest) (hn : nodupB is = true) (hn2 : nodupB rs = true) (ha : apartB is rs = true) (hS : SH (ftl l) w w' l') (ho : AllOwn l') : SH F w0 w' (l' ++ rest) := by
  subst hl; subst hr
  obtain ⟨p1, _⟩ := pick_spec L is (nodupB_spec hn)
  obtain ⟨r1, r2⟩ := pick_spec L rs (nodupB_spec hn2)
  have hne := apartB_spec ha
  -- a piece of the rest against what was handed over
  have hrd : ∀ m b, nth (pick L rs) m = some b → ∀ k, ftl (pick L is) k → ¬ (b.f k ∨ b.r k) := fun m b hb k ⟨i, c, hi, hk⟩ => by
    obtain ⟨j, hj, e⟩ := r1 m b hb
    obtain ⟨j', hj', e'⟩ := p1 i c hi
    exact ((h.dis j' j c b (fun e0 => hne j' hj' (e0 ▸ hj)) e' e) k).1 hk
  have hlt : ∀ m b, nth (pick L rs) m = some b → ∀ k, b.f k ∨ b.r k → k < w.heap.size := fun m b hb k hk => by
    obtain ⟨j, _, e⟩ := r1 m b hb
    exact h.lt e hk
  have hmix : ∀ i c m b, nth l' i = some c → nth (pick L rs) m = some b → Dj c b := fun i c m b hc hb k => by
    refine ⟨fun hk hb' => ?_, fun hk hc' => ?_⟩
    · rcases hS.new i c k hc hk with h1 | h1
      · exact hrd m b hb k h1 hb'
      · exact absurd (hlt m b hb k hb') (Nat.not_lt_of_le h1)
    · rcases hc' with hc' | hc'
      · rcases hS.new i c k hc hc' with h1 | h1
        · exact hrd m b hb k h1 (.inl hk)
        · exact absurd (hlt m b hb k (.inl hk)) (Nat.not_lt_of_le h1)
      · exact ho.at_ hc k hc'
  have hFn : ∀ k, ftl (pick L is) k → F k ∨ w0.heap.size ≤ k := fun k ⟨i, c, hi, hk⟩ => by
    obtain ⟨j', _, e'⟩ := p1 i c hi
    exact h.new j' c k e' hk
  refine ⟨h.keeps.trans_new hS.keeps fun k hk hc => ?_, fun i c hc => ?_, fun i j a b hij ha hb => ?_, fun i c k hc hk => ?_⟩
  · rcases hFn k hc with h1 | h1
    · exact h1
    · exact absurd hk (Nat.not_lt_of_le h1)
  · rw [nth_append] at hc
    split at hc
    · exact hS.all i c hc
    · obtain ⟨j, _, e⟩ := r1 _ c hc
      exact c.st w w' (fun k hk => hS.keeps.block k (h.lt e hk) fun hf => hrd _ c hc k hf hk) (h.get e)
  · rw [nth_append] at ha hb
    split at ha
    · split at hb
      · exact hS.dis i j a b hij ha hb
      · exact hmix i a _ b ha hb
    · split at hb
      · exact (hmix j b _ a hb ha).symm
      · obtain ⟨i1, i2, hne', e1, e2⟩ := r2 _ _ a b (by omega) ha hb
        exact h.dis i1 i2 a b hne' e1 e2
  · rw [nth_append] at hc
    split at hc
    · rcases hS.new i c k hc hk with h1 | h1
      · exact hFn k h1
      · exact .inr (Nat.le_trans h.keeps.size h1)
    · obtain ⟨j, _, e⟩ := r1 _ c hc
      exact h.new j c k e hk
end

/-! ### pieces that are only read -/
def Ck.ro (c : Ck) : Ck where
  f := none_
  r k := c.f k ∨ c.r k
  P := c.P
  lt w h b hb := by rcases hb with hb | hb; exact hb.elim; exact c.lt w h b hb
  st w w' h hP := c.st w w' (fun b hb => h b (.inr hb)) hP
section
variable {P : Program} {F : Nat → Prop} {w0 w w' : World} {L : List Ck} {c : Ck}
theorem SH.ro (h : SH F w0 w L) (i : Nat) (hi : nth L i = some (.ro c)) : c.P w := (show (Ck.ro c).P w from h.get hi)
theorem SH.startRo (h : SH none_ w w L) (hP : c.P w) : SH none_ w w (.ro c :: L) :=
  h.add (Keeps.refl _ _) (c' := .ro c) hP (fun _ hk => hk.elim) (fun k _ => .inr fun j b hb hf => by
    rcases h.new j b k hb hf with h1 | h1
    · exact h1
    · exact absurd (h.lt hb (.inl hf)) (Nat.not_lt_of_le h1))
theorem at_cell {B : Nat} {cs : List Value} {e : TypeId} {k : Nat} {v : Value} (h : At w B (.cells cs.toArray e)) (hv : cs[k]? = some v) : w.cell? ⟨B, k, none⟩ = some v := by
  rw [h.cell]; simpa using hv
theorem at_cells {B : Nat} {cs vs : List Value} {e : TypeId} {k : Nat} (h : At w B (.cells cs.toArray e)) (hv : (cs.drop k).take vs.length = vs) : ∀ j u, vs[j]? = some u → w.cell? ⟨B, k + j, none⟩ = some u := fun j u hu => by
  refine at_cell h ?_
  have hj : j < vs.length := by
    rcases Nat.lt_or_ge j vs.length with h | h
    · exact h
    · rw [List.getElem?_eq_none h] at hu; cases hu
  rw [← hv, List.getElem?_take_of_lt hj, List.getElem?_drop] at hu
  exact hu

variable {K α : Type} [DecidableEq K] {KE : K → Value} {m : Mp K (List α)} {r : Option Nat} {G : Nat → Prop} {e s : Nat} {E : α → List Value}
/-- of a map whose rows are read: where a key's row lies -/
structure SeeOk (w : World) (r : Option Nat) (G : Nat → Prop) (KE : K → Value) (e s : Nat) (E : α → List Value) (m : Mp K (List α)) (k : K) (A : Option Addr) (c : Nat) : Prop where
  map : ∃ G', MapR w r G' KE e s E m (some (k, A, c))
  sl : SL w A c ((mget m k).getD []) E
  sub : ∀ q, inBlk A q → G q
theorem MapR.see (h : MapR w r G KE e s E m none) (k : K) : ∃ A c, SeeOk w r G KE e s E m k A c := by
  obtain ⟨A, c, G', T⟩ := h.take k
  exact ⟨A, c, ⟨G', T.map⟩, ⟨T.own.row, T.own.cap⟩, T.sub2⟩
theorem SeeOk.keep {k : K} {A : Option Addr} {c : Nat} (h : SeeOk w r G KE e s E m k A c) (K : Keeps none_ w w') : SeeOk w' r G KE e s E m k A c := by
  obtain ⟨G', hm⟩ := h.map
  exact ⟨⟨G', (Ck.mpr r G' KE e s E m _).st w w' (fun b hb => K.block b ((Ck.mpr r G' KE e s E m _).lt w hm b hb) fun h => h) hm⟩,
    (Ck.sl A c _ E).st w w' (fun b hb => K.block b ((Ck.sl A c _ E).lt w h.sl b hb) fun h => h) h.sl, h.sub⟩
theorem SH.see {k : K} {A : Option Addr} {c : Nat} (h : SH F w0 w L) (i : Nat) (hi : nth L i = some (.ro (.mpr r G KE e s E m none))) (T : SeeOk w r G KE e s E m k A c) : SH F w0 w (.sl A c ((mget m k).getD []) E :: L) :=
  h.add (Keeps.refl _ _) (c' := .sl A c ((mget m k).getD []) E) T.sl (fun _ hk => hk.elim) (fun q hq => .inr fun j b hb hf => by
    by_cases hj : j = i
    · subst hj; rw [hi] at hb; cases hb; exact hf
    · exact ((h.dis j i b _ hj hb hi) q).1 hf (.inr (.inl (T.sub q hq.2))))
theorem X_lookS {ρ : Operand → Value} {d : Option Tmp} {ty t kt et : TypeId} {ps : String} {af : Array Edge} {gd : Option (Nat × Bool)} {x y : Operand} {k : K} {A : Option Addr} {c : Nat} (hk : KeyT P kt KE) (hu : P.underlying t = some (.map kt et)) (hx : ρ x = .map r) (hy : ρ y = KE k) (hm : SeeOk w r G KE e s E m k A c) {b' s' : Nat} (hi : Inf P et (.slice none 0 0) s' b') :
    (execOp ρ ⟨d, .lookup t x y false, ty, ps, af, gd⟩).run P w = .ok (.value (.slice A ((mget m k).getD []).length c)) w := by
  obtain ⟨G', h⟩ := hm.map
  exact X_lookR hk hu hx hy h hi

/-- what is owned stays so when its first elements are left behind -/
theorem SH.ownDrop {F : Nat → Prop} {l : List α} {A : Option Addr} {c : Nat} (h : SH F w0 w L) (i : Nat) (n : Nat) (hi : nth L i = some (.own e (s + 1) A c l E)) (hE : Enc E s) (hn : n ≤ l.length) : SH F w0 w (put L i (.own e (s + 1) (sA A c n (s + 1)) (c - n) (l.drop n) E)) := by
  have ho := h.own i hi
  refine h.upd hi (Keeps.refl _ _) (c' := .own e (s + 1) (sA A c n (s + 1)) (c - n) (l.drop n) E) ⟨flat_len E (s + 1) hE.len _, ?_⟩ (fun q hq => .inl ?_) (fun q hq => hq.elim)
  · rcases ho.2 with ⟨hA, hc, hl⟩ | ⟨g, o, cur, hA, hg, hnc, hm, hs, ht⟩
    · subst hA; subst hc; subst hl
      exact .inl ⟨by unfold sA; split <;> rfl, by omega, by simp⟩
    · subst hA
      by_cases hc : c = n
      · have hl : l.drop n = [] := List.drop_of_length_le (by omega)
        refine .inr ⟨g, o, cur, by unfold sA; rw [if_pos hc], hg, by rw [hl]; exact Nat.zero_le _, by omega, by rw [hc, Nat.sub_self]; omega, by rw [hl]; simp⟩
      · refine .inr ⟨g, o + n * (s + 1), cur, ?_, hg, by simp; omega, by omega, ?_, ?_⟩
        · unfold sA; rw [if_neg hc]
          show some (Addr.add _ _) = _
          rw [add_mid]
        · have : n * (s + 1) + (c - n) * (s + 1) = c * (s + 1) := by rw [← Nat.add_mul]; congr 1; omega
          omega
        · have hsp : l.flatMap E = (l.take n).flatMap E ++ (l.drop n).flatMap E := by rw [← List.flatMap_append, List.take_append_drop]
          have hlt : ((l.take n).flatMap E).length = n * (s + 1) := by rw [flat_len E (s + 1) hE.len]; simp [Nat.min_eq_left hn]
          have hd : (l.flatMap E).drop (n * (s + 1)) = (l.drop n).flatMap E := by rw [hsp, ← hlt, List.drop_left]
          rw [← hd, ← ht, List.drop_take, List.drop_drop]
          congr 1
          rw [List.length_drop, Nat.sub_mul]
  · obtain ⟨a, ha, hb⟩ := hq
    unfold sA at ha
    split at ha
    · exact ⟨a, ha, hb⟩
    · cases A with
      | none => cases ha
      | some x =>
        simp only [Option.map_some, Option.some.injEq] at ha
        subst ha
        refine ⟨x, rfl, ?_⟩
        rw [← hb]
        unfold Addr.add
        split <;> rfl
end
end Go.Hw
namespace Go.Hw
open Go
/-! ### regions whose order is open, with two operations that write -/
abbrev SK2 (w0 : World) (k1 : Nat) (M : Nat → Prop) (k2 : Nat) : Array Bool → World → Prop := SU (fun _ => True) [(k1, Keeps none_ w0), (k2, Keeps M w0)]
section
variable {P : Program} {n : Nat} {Q : Exit → Fr → World → Prop} {φ : Fr} {w w0 : World} {ops : Array Oper} {o : Oper} {v : Value} {M : Nat → Prop} {k1 k2 : Nat} {L : Array Bool}
theorem RW.drawK2 {id : Nat} {l : List Oper} (k1 : Nat) (M : Nat → Prop) (k2 : Nat) (hm : P.follows .mixedOrders = true)
    (h : ∀ w0, w0 = w.drew → Closed .any l.toArray (Array.replicate l.length false) → SK2 w0 k1 M k2 (Array.replicate l.length false) w0 → RD P n l.toArray (SK2 w0 k1 M k2) Q l.length (Array.replicate l.length false) φ w0) : RW P n (.region id l.toArray true) Q φ w :=
  RW.draw (SK2 w.drew k1 M k2) hm ⟨trivial, fun p hp _ => by
    rcases List.mem_cons.1 hp with hp | hp
    · subst hp; exact Keeps.refl _ _
    · obtain rfl : p = (k2, Keeps M w.drew) := by simpa using hp
      exact Keeps.refl _ _⟩ fun hS => h _ rfl (by simpa using (Closed.start (md := .any) (ops := l.toArray))) hS
theorem RD.takesK2 {N : Nat} (hs : Region.noSelect ops = true) (l : List Nat) (fuel : Nat) (hN : N = l.length + fuel) (hB : takable ops L l = true) (hk : (l.all (k1 != ·) && l.all (k2 != ·)) = true) (hc : Closed .any ops L) (hS : SK2 w0 k1 M k2 L w)
    (h : RQ P n ops (SK2 w0 k1 M k2) l φ (fun φ' => Closed .any ops (listed L l) → SK2 w0 k1 M k2 (listed L l) w → RD P n ops (SK2 w0 k1 M k2) Q fuel (listed L l) φ' w)) : RD P n ops (SK2 w0 k1 M k2) Q N L φ w := by
  subst hN
  refine RD.takes hs l fuel L φ hB (SU.compat ?_) hc hS h
  rw [Bool.and_eq_true] at hk
  refine List.all_eq_true.2 fun i hi => ?_
  have h1 := List.all_eq_true.1 hk.1 i hi
  have h2 := List.all_eq_true.1 hk.2 i hi
  simp only [List.all_cons, List.all_nil, Bool.and_true, Bool.and_eq_true]
  exact ⟨h1, h2⟩
theorem until_K2a {i f : Nat} {w' : World} (h : Until .any ops (SK2 w0 k1 M k2) i w') (ha : ahead .any ops i f k1 = true) : Keeps none_ w0 w' := by
  obtain ⟨L, hc, hi, h⟩ := h
  exact h.2 (k1, Keeps none_ w0) (by simp) (ahead_spec hc f k1 ha hi)
theorem until_K2b {i f : Nat} {w' : World} (h : Until .any ops (SK2 w0 k1 M k2) i w') (ha : ahead .any ops i f k2 = true) : Keeps M w0 w' := by
  obtain ⟨L, hc, hi, h⟩ := h
  exact h.2 (k2, Keeps M w0) (by simp) (ahead_spec hc f k2 ha hi)
theorem Yld.K2a {i : Nat} (f : Nat) (hg : o.guard = none) (ha : ahead .any ops i f k1 = true) (h : ∀ w', Keeps none_ w0 w' → (execOp (ev φ) o).run P w' = .ok (.value v) w') : Yld P n ops (Until .any ops (SK2 w0 k1 M k2) i) φ o v := Yld.plain hg fun _ hw => h _ (until_K2a hw ha)
theorem Yld.K2b {i : Nat} (f : Nat) (hg : o.guard = none) (ha : ahead .any ops i f k2 = true) (h : ∀ w', Keeps M w0 w' → (execOp (ev φ) o).run P w' = .ok (.value v) w') : Yld P n ops (Until .any ops (SK2 w0 k1 M k2) i) φ o v := Yld.plain hg fun _ hw => h _ (until_K2b hw ha)
theorem SK2.next {i : Nat} {w' : World} (h1 : (i == k1) = false) (h2 : (i == k2) = false) (hS : SK2 w0 k1 M k2 L w) (h : Keeps none_ w w') : SK2 w0 k1 M k2 (L.setIfInBounds i true) w' :=
  ⟨trivial, fun p hp hl => by
    rcases List.mem_cons.1 hp with hp | hp
    · subst hp
      have hne : i ≠ k1 := by simpa using h1
      have hl' : (L.setIfInBounds i true).getD k1 false = false := hl
      rw [getD_set_ne false hne] at hl'
      exact (hS.2 (k1, Keeps none_ w0) (by simp) hl').trans h
    · obtain rfl : p = (k2, Keeps M w0) := by simpa using hp
      have hne : i ≠ k2 := by simpa using h2
      have hl' : (L.setIfInBounds i true).getD k2 false = false := hl
      rw [getD_set_ne false hne] at hl'
      exact (hS.2 (k2, Keeps M w0) (by simp) hl').trans (h.mono fun _ hk => hk.elim)⟩
theorem SK2.now1 {w' : World} (hc : Closed .any ops L) (hk : Nat.blt k1 ops.size = true) (h2 : (k1 == k2) = false) (hS : SK2 w0 k1 M k2 L w) (h0 : L.getD k2 false = false) (h : Keeps M w w') : SK2 w0 k1 M k2 (L.setIfInBounds k1 true) w' :=
  ⟨trivial, fun p hp hl => by
    rcases List.mem_cons.1 hp with hp | hp
    · subst hp
      exfalso
      have hlt : k1 < L.size := by rw [hc.1]; exact Nat.blt_eq.mp hk
      have hl' : (L.setIfInBounds k1 true).getD k1 false = false := hl
      simp [hlt] at hl'
    · obtain rfl : p = (k2, Keeps M w0) := by simpa using hp
      exact (hS.2 (k2, Keeps M w0) (by simp) h0).trans h⟩
theorem SK2.now2 {w' : World} (hc : Closed .any ops L) (hk : Nat.blt k2 ops.size = true) (h2 : (k2 == k1) = false) (h1 : L.getD k1 false = true) : SK2 w0 k1 M k2 (L.setIfInBounds k2 true) w' :=
  ⟨trivial, fun p hp hl => by
    rcases List.mem_cons.1 hp with hp | hp
    · subst hp
      exfalso
      have hne : k2 ≠ k1 := by simpa using h2
      have hl' : (L.setIfInBounds k2 true).getD k1 false = false := hl
      rw [getD_set_ne false hne, h1] at hl'
      cases hl'
    · obtain rfl : p = (k2, Keeps M w0) := by simpa using hp
      exfalso
      have hlt : k2 < L.size := by rw [hc.1]; exact Nat.blt_eq.mp hk
      have hl' : (L.setIfInBounds k2 true).getD k2 false = false := hl
      simp [hlt] at hl'⟩
theorem SK2.past {i : Nat} {w' : World} (h1 : (i == k1) = false) (h2 : (i == k2) = false) (g1 : L.getD k1 false = true) (g2 : L.getD k2 false = true) : SK2 w0 k1 M k2 (L.setIfInBounds i true) w' :=
  ⟨trivial, fun p hp hl => by
    rcases List.mem_cons.1 hp with hp | hp
    · subst hp
      exfalso
      have hne : i ≠ k1 := by simpa using h1
      have hl' : (L.setIfInBounds i true).getD k1 false = false := hl
      rw [getD_set_ne false hne, g1] at hl'; cases hl'
    · obtain rfl : p = (k2, Keeps M w0) := by simpa using hp
      exfalso
      have hne : i ≠ k2 := by simpa using h2
      have hl' : (L.setIfInBounds i true).getD k2 false = false := hl
      rw [getD_set_ne false hne, g2] at hl'; cases hl'⟩
/-- a piece beside one that is written -/
theorem SH.besides {F : Nat → Prop} {wa wr w' : World} {l : List Ck} {c d : Ck} (h : SH F wa wr l) (i j : Nat) (hij : Nat.beq i j = false) (hi : nth l i = some c) (hj : nth l j = some d) (K : Keeps d.f wr w') : c.P w' :=
  c.st wr w' (fun k hk => K.block k (h.lt hi hk) fun hd => (h.dis j i d c (fun e => by rw [e] at hij; simp at hij) hj hi k).1 hd hk) (h.get hi)
end
end Go.Hw
