/- Maps whose values are rows of their own: one may be out. -/
import Derived.Test.YtjahbhpcaenllaaHwMp
namespace Go.Hw
open Go

def Ck.emp : Ck := ⟨none_, none_, fun _ => True, fun _ _ _ h => by rcases h with h | h <;> exact h.elim, fun _ _ _ h => h⟩

section
variable {F : Nat → Prop} {w0 w w' : World} {l : List Ck} {i j : Nat} {c c2 c' c2' : Ck}
theorem SH.addEmp (h : SH F w0 w l) : SH F w0 w (.emp :: l) := h.add (Keeps.refl _ _) (c' := .emp) trivial (fun _ hk => hk.elim) (fun _ hk => hk.elim)
/-- two pieces are others now -/
theorem SH.upd2 (h : SH F w0 w l) (hij : i ≠ j) (hi : nth l i = some c) (hj : nth l j = some c2) (K : Keeps (fun k => c.f k ∨ c2.f k) w w') (hP : c'.P w') (hP2 : c2'.P w')
    (hf : ∀ k, c'.f k ∨ c'.r k → (c.f k ∨ c2.f k) ∨ w.heap.size ≤ k) (hf2 : ∀ k, c2'.f k ∨ c2'.r k → (c.f k ∨ c2.f k) ∨ w.heap.size ≤ k) (hd : Dj c' c2') : SH F w0 w' (put (put l i c') j c2') := by
  have hn : ∀ m, nth (put (put l i c') j c2') m = if m = j then some c2' else if m = i then some c' else nth l m := fun m => by
    rw [nth_put, nth_put, nth_put]
    by_cases h1 : m = j
    · subst h1; simp [Ne.symm hij, hj]
    · by_cases h2 : m = i
      · subst h2; simp [h1, hi]
      · simp [h1, h2]
  have out : ∀ (d : Ck), (∀ k, d.f k ∨ d.r k → (c.f k ∨ c2.f k) ∨ w.heap.size ≤ k) → ∀ m b, m ≠ i → m ≠ j → nth l m = some b → Dj d b := fun d hd m b h1 h2 hb k => by
    have hA := h.dis i m c b (Ne.symm h1) hi hb k
    have hB := h.dis j m c2 b (Ne.symm h2) hj hb k
    have hlt : b.f k ∨ b.r k → k < w.heap.size := fun hk => h.lt hb hk
    refine ⟨fun hk hb' => ?_, fun hk hc => ?_⟩
    · rcases hd k (.inl hk) with (h3 | h3) | h3
      · exact hA.1 h3 hb'
      · exact hB.1 h3 hb'
      · exact absurd (hlt hb') (Nat.not_lt_of_le h3)
    · rcases hd k hc with (h3 | h3) | h3
      · exact hA.1 h3 (.inl hk)
      · exact hB.1 h3 (.inl hk)
      · exact absurd (hlt (.inl hk)) (Nat.not_lt_of_le h3)
  have hnew : ∀ k, (c.f k ∨ c2.f k) ∨ w.heap.size ≤ k → F k ∨ w0.heap.size ≤ k := fun k hk => by
    rcases hk with (hk | hk) | hk
    · exact h.new i c k hi hk
    · exact h.new j c2 k hj hk
    · exact .inr (Nat.le_trans h.keeps.size hk)
  refine ⟨h.keeps.trans_new K fun k hk hc => ?_, fun m b hb => ?_, fun m n a b hmn ha hb => ?_, fun m b k hb hk => ?_⟩
  · rcases hnew k (.inl hc) with h1 | h1
    · exact h1
    · exact absurd hk (Nat.not_lt_of_le h1)
  · rw [hn] at hb
    by_cases h1 : m = j
    · rw [if_pos h1] at hb; cases hb; exact hP2
    · rw [if_neg h1] at hb
      by_cases h2 : m = i
      · rw [if_pos h2] at hb; cases hb; exact hP
      · rw [if_neg h2] at hb
        exact b.st w w' (fun k hk => K.block k (h.lt hb hk) fun hc => by
          rcases hc with hc | hc
          · exact ((h.dis i m c b (Ne.symm h2) hi hb k).1 hc) hk
          · exact ((h.dis j m c2 b (Ne.symm h1) hj hb k).1 hc) hk) (h.get hb)
  · rw [hn] at ha hb
    by_cases h1 : m = j
    · rw [if_pos h1] at ha; cases ha
      by_cases h2 : n = j
      · exact absurd (h1.trans h2.symm) hmn
      · rw [if_neg h2] at hb
        by_cases h3 : n = i
        · rw [if_pos h3] at hb; cases hb; exact hd.symm
        · rw [if_neg h3] at hb; exact out c2' hf2 n b h3 h2 hb
    · rw [if_neg h1] at ha
      by_cases h2 : m = i
      · rw [if_pos h2] at ha; cases ha
        by_cases h3 : n = j
        · rw [if_pos h3] at hb; cases hb; exact hd
        · rw [if_neg h3] at hb
          by_cases h4 : n = i
          · exact absurd (h2.trans h4.symm) hmn
          · rw [if_neg h4] at hb; exact out c' hf n b h4 h3 hb
      · rw [if_neg h2] at ha
        by_cases h3 : n = j
        · rw [if_pos h3] at hb; cases hb; exact (out c2' hf2 m a h2 h1 ha).symm
        · rw [if_neg h3] at hb
          by_cases h4 : n = i
          · rw [if_pos h4] at hb; cases hb; exact (out c' hf m a h2 h1 ha).symm
          · rw [if_neg h4] at hb; exact h.dis m n a b hmn ha hb
  · rw [hn] at hb
    by_cases h1 : m = j
    · rw [if_pos h1] at hb; cases hb; exact hnew k (hf2 k (.inl hk))
    · rw [if_neg h1] at hb
      by_cases h2 : m = i
      · rw [if_pos h2] at hb; cases hb; exact hnew k (hf k (.inl hk))
      · rw [if_neg h2] at hb; exact h.new m b k hb hk
end

/-- a slice's header, and what it holds -/
structure Sd (α : Type) where
  (A : Option Addr) (c : Nat) (x : List α)
def Sd.V {α : Type} (d : Sd α) : Value := .slice d.A d.x.length d.c
def er {K α : Type} (m : Mp K (Sd α)) : Mp K (List α) := m.map fun l => l.map fun e => (e.1, e.2.x)
/-- an entry whose row is not out -/
def inn {K : Type} (h : Option K) (k : K) : Prop := ∀ q, h = some q → q ≠ k

section
variable {K α : Type} [DecidableEq K]
def foot (r : Option Nat) (m : Mp K (Sd α)) (h : Option K) (k : Nat) : Prop := r = some k ∨ ∃ l, m = some l ∧ ∃ p ∈ l, inn h p.1 ∧ inBlk p.2.A k
/-- the map's block, its rows but the one that is out: owned, apart from each other -/
structure RowsOk (w : World) (r : Option Nat) (e s : Nat) (E : α → List Value) (m : Mp K (Sd α)) (h : Option K) : Prop where
  own : ∀ l, m = some l → ∀ p ∈ l, inn h p.1 → OwnA w e s p.2.A p.2.c p.2.x E ∧ ∀ k, inBlk p.2.A k → r ≠ some k
  apart : ∀ l, m = some l → ∀ p ∈ l, ∀ q ∈ l, p.1 ≠ q.1 → inn h p.1 → inn h q.1 → ∀ k, inBlk p.2.A k → ¬ inBlk q.2.A k
def MapR (w : World) (r : Option Nat) (G : Nat → Prop) (KE : K → Value) (e s : Nat) (E : α → List Value) (m : Mp K (List α)) (h : Option (K × Option Addr × Nat)) : Prop :=
  ∃ m' : Mp K (Sd α), MapF w r KE Sd.V m' ∧ m = er m' ∧ (∀ k, G k ↔ foot r m' (h.map (·.1)) k) ∧ RowsOk w r e s E m' (h.map (·.1)) ∧
    ∀ k A c, h = some (k, A, c) → (mget m' k = none ∧ A = none ∧ c = 0) ∨ ∃ d, mget m' k = some d ∧ d.A = A ∧ d.c = c
omit [DecidableEq K] in
theorem RowsOk.kept {w w' : World} {r : Option Nat} {e s : Nat} {E : α → List Value} {m : Mp K (Sd α)} {h : Option K} (hr : RowsOk w r e s E m h) (hb : ∀ k, foot r m h k → w'.heap[k]? = w.heap[k]?) : RowsOk w' r e s E m h :=
  ⟨fun l hl p hp hi => ⟨(Ck.own e s p.2.A p.2.c p.2.x E).st w w' (fun k hk => by
    rcases hk with hk | hk
    · exact hb k (.inr ⟨l, hl, p, hp, hi, hk⟩)
    · exact hk.elim) (hr.own l hl p hp hi).1, (hr.own l hl p hp hi).2⟩, hr.apart⟩
def Ck.mpr (r : Option Nat) (G : Nat → Prop) (KE : K → Value) (e s : Nat) (E : α → List Value) (m : Mp K (List α)) (h : Option (K × Option Addr × Nat)) : Ck where
  f := G
  r := none_
  P w := MapR w r G KE e s E m h
  lt w hP b hb := by
    obtain ⟨m', h1, h2, h3, h4, h5⟩ := hP
    rcases hb with hb | hb
    · rcases (h3 b).1 hb with hb | ⟨l, hl, p, hp, hi, hk⟩
      · exact (Ck.mpf r KE Sd.V m').lt w h1 b (.inl hb)
      · exact (Ck.own e s p.2.A p.2.c p.2.x E).lt w (h4.own l hl p hp hi).1 b (.inl hk)
    · exact hb.elim
  st w w' hb hP := by
    obtain ⟨m', h1, h2, h3, h4, h5⟩ := hP
    refine ⟨m', (Ck.mpf r KE Sd.V m').st w w' (fun b hb' => hb b (.inl ((h3 b).2 ?_))) h1, h2, h3, h4.kept fun k hk => hb k (.inl ((h3 k).2 hk)), h5⟩
    rcases hb' with hb' | hb'
    · exact .inl hb'
    · exact hb'.elim

theorem er_get (m : Mp K (Sd α)) (k : K) : mget (er m) k = (mget m k).map (·.x) := by
  cases m with
  | none => rfl
  | some l =>
    show alook (l.map _) k = (alook l k).map _
    induction l with
    | nil => rfl
    | cons a l ih =>
      simp only [List.map_cons, alook]
      split
      · rfl
      · exact ih
theorem alook_mem : ∀ {l : List (K × Sd α)} {k : K} {d : Sd α}, alook l k = some d → (k, d) ∈ l
  | [], _, _, h => by cases h
  | a :: l, k, d, h => by
    simp only [alook] at h
    split at h
    · rename_i he; cases h; obtain ⟨k', d'⟩ := a; cases he; exact List.mem_cons_self
    · exact List.mem_cons_of_mem _ (alook_mem h)
theorem alook_of_mem : ∀ {l : List (K × Sd α)}, (l.map (·.1)).Nodup → ∀ {p : K × Sd α}, p ∈ l → alook l p.1 = some p.2
  | [], _, _, h => by cases h
  | a :: l, hn, p, h => by
    have hn' := List.nodup_cons.1 (show (a.1 :: l.map (·.1)).Nodup from hn)
    rcases List.mem_cons.1 h with h | h
    · subst h; simp [alook]
    · have hne : a.1 ≠ p.1 := fun e => hn'.1 (by rw [e]; exact List.mem_map.2 ⟨p, h, rfl⟩)
      simp only [alook, hne, if_false]
      exact alook_of_mem hn'.2 h
omit [DecidableEq K] in
theorem MapF.keys {w : World} {r : Option Nat} {KE : K → Value} {V : Type} {VE : V → Value} {m : Mp K V} (h : MapF w r KE VE m) {l : List (K × V)} (hl : m = some l) : (l.map (·.1)).Nodup := by
  rcases h with ⟨_, h1⟩ | ⟨b, l', es, cl, _, h1, _, he⟩
  · rw [h1] at hl; cases hl
  · rw [h1] at hl; cases hl; exact he.nodup

section
variable {P : Program} {φ : Fr} {w : World} {F : Nat → Prop} {w0 : World} {L : List Ck} {d : Option Tmp} {ty t kt et : TypeId} {ps : String} {af : Array Edge} {gd : Option (Nat × Bool)} {x y z : Operand}
variable {KE : K → Value} {m : Mp K (List α)} {r : Option Nat} {G : Nat → Prop} {e s : Nat} {E : α → List Value} {k : K} {A : Option Addr} {c : Nat}

/-- what is known of a row that is out -/
structure TakeOk (w : World) (r : Option Nat) (G G' : Nat → Prop) (KE : K → Value) (e s : Nat) (E : α → List Value) (m : Mp K (List α)) (k : K) (A : Option Addr) (c : Nat) : Prop where
  map : MapR w r G' KE e s E m (some (k, A, c))
  own : OwnA w e s A c ((mget m k).getD []) E
  sub : ∀ q, G' q → G q
  sub2 : ∀ q, inBlk A q → G q
  dj : ∀ q, G' q → ¬ inBlk A q
theorem TakeOk.keep {w w' : World} {G' : Nat → Prop} (h : TakeOk w r G G' KE e s E m k A c) (K : Keeps none_ w w') : TakeOk w' r G G' KE e s E m k A c :=
  ⟨(Ck.mpr r G' KE e s E m _).st w w' (fun b hb => K.block b ((Ck.mpr r G' KE e s E m _).lt w h.map b hb) fun h => h) h.map,
   (Ck.own e s A c _ E).st w w' (fun b hb => K.block b ((Ck.own e s A c _ E).lt w h.own b hb) fun h => h) h.own, h.sub, h.sub2, h.dj⟩
theorem MapR.take (h : MapR w r G KE e s E m none) (k : K) : ∃ A c G', TakeOk w r G G' KE e s E m k A c := by
  obtain ⟨m', h1, h2, h3, h4, h5⟩ := h
  have hsub : ∀ q, foot r m' (some k) q → G q := fun q hq => (h3 q).2 (by
    rcases hq with hq | ⟨l, hl, p, hp, _, hk⟩
    · exact .inl hq
    · exact .inr ⟨l, hl, p, hp, fun _ h => (by cases h), hk⟩)
  have hrows : RowsOk w r e s E m' (some k) := ⟨fun l hl p hp _ => h4.own l hl p hp (fun _ h => (by cases h)), fun l hl p hp q hq hne _ _ => h4.apart l hl p hp q hq hne (fun _ h => (by cases h)) (fun _ h => (by cases h))⟩
  cases hg : mget m' k with
  | none =>
    have hm : (mget m k).getD [] = ([] : List α) := by rw [h2, er_get, hg]; rfl
    exact ⟨none, 0, foot r m' (some k), ⟨m', h1, h2, fun _ => Iff.rfl, hrows, fun k' A' c' he => by cases he; exact .inl ⟨hg, rfl, rfl⟩⟩, by rw [hm]; exact OwnA.nil _ _ _ _, hsub, fun q ⟨a, ha, _⟩ => (by cases ha), fun q _ ⟨a, ha, _⟩ => (by cases ha)⟩
  | some dd =>
    have hm : (mget m k).getD [] = dd.x := by rw [h2, er_get, hg]; rfl
    obtain ⟨l, hl, hlk⟩ : ∃ l, m' = some l ∧ alook l k = some dd := by
      cases m' with
      | none => cases hg
      | some l => exact ⟨l, rfl, hg⟩
    have hmem := alook_mem hlk
    have hown := h4.own l hl _ hmem (fun _ h => (by cases h))
    refine ⟨dd.A, dd.c, foot r m' (some k), ⟨m', h1, h2, fun _ => Iff.rfl, hrows, fun k' A' c' he => by cases he; exact .inr ⟨dd, hg, rfl, rfl⟩⟩, by rw [hm]; exact hown.1, hsub, fun q hq => (h3 q).2 (.inr ⟨l, hl, _, hmem, fun _ h => (by cases h), hq⟩), fun q hq hb => ?_⟩
    rcases hq with hq | ⟨l', hl', p, hp, hinn, hk⟩
    · exact hown.2 q hb hq
    · rw [hl] at hl'; cases hl'
      exact h4.apart l hl p hp _ hmem (fun e => hinn k rfl e.symm) (fun _ h => (by cases h)) (fun _ h => (by cases h)) q hk hb
theorem SH.take (h : SH F w0 w L) (i : Nat) {G' : Nat → Prop} (hi : nth L i = some (.mpr r G KE e s E m none)) (T : TakeOk w r G G' KE e s E m k A c) :
    SH F w0 w (.own e s A c ((mget m k).getD []) E :: put L i (.mpr r G' KE e s E m (some (k, A, c)))) :=
  h.addEmp.upd2 (i := i + 1) (j := 0) (by omega) hi rfl (c' := .mpr r G' KE e s E m (some (k, A, c))) (c2' := .own e s A c ((mget m k).getD []) E) (Keeps.refl _ _) T.map T.own
    (fun q hq => .inl (.inl (by rcases hq with hq | hq; exact T.sub q hq; exact hq.elim))) (fun q hq => .inl (.inl (by rcases hq with hq | hq; exact T.sub2 q hq; exact hq.elim)))
    (fun q => ⟨fun hq hb => by rcases hb with hb | hb; exact T.dj q hq hb; exact hb.elim, fun hb hq => by rcases hq with hq | hq; exact T.dj q hq hb; exact hq.elim⟩)
theorem SH.mpr (h : SH F w0 w L) {ho : Option (K × Option Addr × Nat)} (i : Nat) (hi : nth L i = some (.mpr r G KE e s E m ho)) : MapR w r G KE e s E m ho := h.get hi

/-- the value that is looked up, its row being out -/
theorem X_lookR {ρ : Operand → Value} (hk : KeyT P kt KE) (hu : P.underlying t = some (.map kt et)) (hx : ρ x = .map r) (hy : ρ y = KE k) (hm : MapR w r G KE e s E m (some (k, A, c))) {b' s' : Nat} (hi : Inf P et (.slice none 0 0) s' b') :
    (execOp ρ ⟨d, .lookup t x y false, ty, ps, af, gd⟩).run P w = .ok (.value (.slice A ((mget m k).getD []).length c)) w := by
  obtain ⟨m', h1, h2, h3, h4, h5⟩ := hm
  rw [X_lookF (m := m') hk hu hx hy h1 hi ⟨none, 0, []⟩ rfl, h2, er_get]
  rcases h5 k A c rfl with ⟨hg, hA, hc⟩ | ⟨dd, hg, hA, hc⟩
  · rw [hg, hA, hc]; rfl
  · rw [hg, ← hA, ← hc]; rfl
theorem X_nilR {ρ : Operand → Value} {t' : TypeId} {ho : Option (K × Option Addr × Nat)} (hx : ρ x = .map r) (hy : ρ y = .map none) (hu : P.underlying t = some (.map kt et)) (hm : MapR w r G KE e s E m ho) : (execOp ρ ⟨d, .binOp .eql t x y t', ty, ps, af, gd⟩).run P w = .ok (.value (.bool m.isNone)) w := by
  obtain ⟨m', h1, h2, _⟩ := hm
  have : m.isNone = m'.isNone := by rw [h2]; cases m' <;> rfl
  rw [this]
  exact X_nilM hx hu hy h1.nil

/-- the row is put back -/
theorem SH.give (h : SH F w0 w L) (i j : Nat) (hij : Nat.beq i j = false) (hi : nth L i = some (.mpr r G KE e s E m (some (k, A, c)))) (hj : nth L j = some (.own e s A c ((mget m k).getD []) E)) :
    ∃ G', SH F w0 w (put (put L i (.mpr r G' KE e s E m none)) j .emp) := by
  have hne : i ≠ j := fun e => by rw [e] at hij; simp at hij
  obtain ⟨m', h1, h2, h3, h4, h5⟩ := h.mpr i hi
  have ho := h.own j hj
  have hD := h.dis i j _ _ hne hi hj
  have hr : ∀ q, inBlk A q → r ≠ some q := fun q hq he => (hD q).2 hq (.inl ((h3 q).2 (.inl he)))
  have hkey : ∀ l, m' = some l → ∀ p ∈ l, p.1 = k → p.2.A = A ∧ p.2.c = c ∧ p.2.x = (mget m k).getD [] := fun l hl p hp he => by
    have hlk := alook_of_mem (h1.keys hl) hp
    have hg : mget m' k = some p.2 := by rw [hl, ← he]; exact hlk
    rcases h5 k A c rfl with ⟨hg', _⟩ | ⟨dd, hg', hA, hc⟩
    · rw [hg'] at hg; cases hg
    · rw [hg'] at hg; cases hg
      exact ⟨hA, hc, by rw [h2, er_get, hg']; rfl⟩
  have hinn : ∀ p : K × Sd α, p.1 ≠ k → inn (some k) p.1 := fun p hp q hq => by cases hq; exact fun e => hp e.symm
  refine ⟨foot r m' none, h.upd2 hne hi hj (Keeps.refl _ _) (c' := .mpr r (foot r m' none) KE e s E m none) (c2' := .emp) ⟨m', h1, h2, fun _ => Iff.rfl, ⟨fun l hl p hp _ => ?_, fun l hl p hp q hq hpq _ _ b hb hb' => ?_⟩, fun _ _ _ he => by cases he⟩ trivial (fun q hq => .inl ?_) (fun q hq => by rcases hq with hq | hq <;> exact hq.elim) (fun q => ⟨fun _ hq => by rcases hq with hq | hq <;> exact hq.elim, fun hq => hq.elim⟩)⟩
  · by_cases he : p.1 = k
    · obtain ⟨e1, e2, e3⟩ := hkey l hl p hp he
      rw [e1, e2, e3]; exact ⟨ho, hr⟩
    · exact h4.own l hl p hp (hinn p he)
  · by_cases he : p.1 = k
    · have he' : q.1 ≠ k := fun e => hpq (he.trans e.symm)
      rw [(hkey l hl p hp he).1] at hb
      exact (hD b).2 hb (.inl ((h3 b).2 (.inr ⟨l, hl, q, hq, hinn q he', hb'⟩)))
    · by_cases he' : q.1 = k
      · rw [(hkey l hl q hq he').1] at hb'
        exact (hD b).2 hb' (.inl ((h3 b).2 (.inr ⟨l, hl, p, hp, hinn p he, hb⟩)))
      · exact h4.apart l hl p hp q hq hpq (hinn p he) (hinn q he') b hb hb'
  · rcases hq with (hq | ⟨l, hl, p, hp, _, hb⟩) | hq
    · exact .inl ((h3 q).2 (.inl hq))
    · by_cases he : p.1 = k
      · rw [(hkey l hl p hp he).1] at hb; exact .inr hb
      · exact .inl ((h3 q).2 (.inr ⟨l, hl, p, hp, hinn p he, hb⟩))
    · exact hq.elim

theorem er_set (m : Mp K (Sd α)) (k : K) (d : Sd α) : er (mset m k d) = mset (er m) k d.x := by
  cases m with
  | none => rfl
  | some l =>
    show some ((aset l k d).map _) = some (aset (l.map _) k d.x)
    congr 1
    induction l with
    | nil => rfl
    | cons a l ih =>
      simp only [aset, List.map_cons]
      split
      · rfl
      · simp only [List.map_cons, ih]
theorem er_del (m : Mp K (Sd α)) (k : K) : er (mdel m k) = mdel (er m) k := by
  cases m with
  | none => rfl
  | some l =>
    show some ((adel l k).map _) = some (adel (l.map _) k)
    congr 1
    induction l with
    | nil => rfl
    | cons a l ih =>
      simp only [adel, List.map_cons]
      split
      · rfl
      · simp only [List.map_cons, ih]
theorem mem_aset : ∀ {l : List (K × Sd α)} {k : K} {d : Sd α}, (l.map (·.1)).Nodup → ∀ {p : K × Sd α}, p ∈ aset l k d → p = (k, d) ∨ (p ∈ l ∧ p.1 ≠ k)
  | [], k, d, _, p, h => by simp [aset] at h; exact .inl h
  | a :: l, k, d, hn, p, h => by
    have hn' := List.nodup_cons.1 (show (a.1 :: l.map (·.1)).Nodup from hn)
    simp only [aset] at h
    split at h
    · rename_i he
      rcases List.mem_cons.1 h with h | h
      · exact .inl h
      · refine .inr ⟨List.mem_cons_of_mem _ h, fun e => hn'.1 ?_⟩
        rw [he, ← e]; exact List.mem_map.2 ⟨p, h, rfl⟩
    · rename_i he
      rcases List.mem_cons.1 h with h | h
      · subst h; exact .inr ⟨List.mem_cons_self, he⟩
      · rcases mem_aset hn'.2 h with h | ⟨h, h'⟩
        · exact .inl h
        · exact .inr ⟨List.mem_cons_of_mem _ h, h'⟩
theorem mem_adel : ∀ {l : List (K × Sd α)} {k : K}, (l.map (·.1)).Nodup → ∀ {p : K × Sd α}, p ∈ adel l k → p ∈ l ∧ p.1 ≠ k
  | [], k, _, p, h => by cases h
  | a :: l, k, hn, p, h => by
    have hn' := List.nodup_cons.1 (show (a.1 :: l.map (·.1)).Nodup from hn)
    simp only [adel] at h
    split at h
    · rename_i he
      refine ⟨List.mem_cons_of_mem _ h, fun e => hn'.1 ?_⟩
      rw [he, ← e]; exact List.mem_map.2 ⟨p, h, rfl⟩
    · rename_i he
      rcases List.mem_cons.1 h with h | h
      · subst h; exact ⟨List.mem_cons_self, he⟩
      · exact ⟨List.mem_cons_of_mem _ (mem_adel hn'.2 h).1, (mem_adel hn'.2 h).2⟩

omit [DecidableEq K] in
theorem SH.single {c : Ck} (hP : c.P w) : SH c.f w w [c] :=
  ⟨Keeps.refl _ _, fun i c' h => by cases i with
    | zero => cases h; exact hP
    | succ i => simp [nth] at h, fun i j a b hij ha hb => by
    cases i with
    | zero => cases j with
      | zero => exact absurd rfl hij
      | succ j => simp [nth] at hb
    | succ i => simp [nth] at ha, fun i c' k h hk => by cases i with
    | zero => cases h; exact .inl hk
    | succ i => simp [nth] at h⟩

/-- a row is stored under a key: the row that was there, or that is out, is nobody's -/
theorem S_mapR {ho : Option (K × Option Addr × Nat)} {xs : List α} (hM : SH F w0 w L) (i j : Nat) (hij : Nat.beq i j = false) (hc : nth L i = some (.mpr r G KE e s E m ho)) (hj : nth L j = some (.own e s A c xs E)) (hk : KeyT P kt KE) (hu : P.underlying t = some (.map kt et)) (hx : ev φ x = .map r) (hy : ev φ y = KE k) (hz : ev φ z = .slice A xs.length c) (hn : m.isSome = true) (hh : ∀ q, ho.map (·.1) = some q → q = k) :
    EXs P φ ⟨d, .mapUpdate t x y z, ty, ps, af, gd⟩ w fun w' => ∃ G', SH F w0 w' (put (put L i (.mpr r G' KE e s E (mset m k xs) none)) j .emp) ∧ Keeps (fun q => G q ∨ inBlk A q) w w' := by
  have hne : i ≠ j := fun e => by rw [e] at hij; simp at hij
  obtain ⟨m', h1, h2, h3, h4, h5⟩ := hM.mpr i hc
  have hown := hM.own j hj
  have hD := hM.dis i j _ _ hne hc hj
  have hn' : m'.isSome = true := by rw [h2] at hn; cases m' <;> simp_all [er]
  have h0 := SH.single (c := .mpf r KE Sd.V m') h1
  obtain ⟨w', hr, hS, hK⟩ := S_mapF (d := d) (ty := ty) (ps := ps) (af := af) (g := gd) h0 0 rfl hk hu hx hy (v := (⟨A, c, xs⟩ : Sd α)) hz hn'
  have hF : MapF w' r KE Sd.V (mset m' k ⟨A, c, xs⟩) := hS.mpf 0 rfl
  obtain ⟨l, hl⟩ : ∃ l, m' = some l := Option.isSome_iff_exists.1 hn'
  have hms : mset m' k ⟨A, c, xs⟩ = some (aset l k ⟨A, c, xs⟩) := by rw [hl]; rfl
  have hnod := h1.keys hl
  have hinn : ∀ q, q ≠ k → inn (ho.map (·.1)) q := fun q hq q' hq' => by rw [hh q' hq']; exact fun e => hq e.symm
  have hrA : ∀ q, inBlk A q → r ≠ some q := fun q hq he => (hD q).2 hq (.inl ((h3 q).2 (.inl he)))
  have hst : ∀ {A' c' x'}, OwnA w e s A' c' x' E → (∀ q, inBlk A' q → r ≠ some q) → OwnA w' e s A' c' x' E := fun {A' c' x'} ho' hr' => (Ck.own e s A' c' x' E).st w w' (fun q hq => hK.block q ((Ck.own e s A' c' x' E).lt w ho' q hq) (by
    rcases hq with hq | hq
    · exact fun h => hr' q hq h
    · exact hq.elim)) ho'
  have hK2 : Keeps (fun q => G q ∨ inBlk A q) w w' := hK.mono fun q hq => .inl ((h3 q).2 (.inl hq))
  refine ⟨w', hr, foot r (mset m' k ⟨A, c, xs⟩) none, hM.upd2 hne hc hj hK2 (c' := .mpr r (foot r (mset m' k ⟨A, c, xs⟩) none) KE e s E (mset m k xs) none) (c2' := .emp) ⟨mset m' k ⟨A, c, xs⟩, hF, by rw [er_set, h2], fun _ => Iff.rfl, ⟨fun l' hl' p hp _ => ?_, fun l' hl' p hp q hq hpq _ _ b hb hb' => ?_⟩, fun _ _ _ he => by cases he⟩ trivial (fun q hq => .inl ?_) (fun q hq => by rcases hq with hq | hq <;> exact hq.elim) (fun q => ⟨fun _ hq => by rcases hq with hq | hq <;> exact hq.elim, fun hq => hq.elim⟩), hK2⟩
  · rw [hms] at hl'; cases hl'
    rcases mem_aset hnod hp with h | ⟨h, h'⟩
    · subst h; exact ⟨hst hown hrA, hrA⟩
    · obtain ⟨ha, hb⟩ := h4.own l hl p h (hinn _ h')
      exact ⟨hst ha hb, hb⟩
  · rw [hms] at hl'; cases hl'
    rcases mem_aset hnod hp with h | ⟨h, h'⟩ <;> rcases mem_aset hnod hq with h2 | ⟨h2, h2'⟩
    · subst h; subst h2; exact hpq rfl
    · subst h; exact (hD b).2 hb (.inl ((h3 b).2 (.inr ⟨l, hl, q, h2, hinn _ h2', hb'⟩)))
    · subst h2; exact (hD b).2 hb' (.inl ((h3 b).2 (.inr ⟨l, hl, p, h, hinn _ h', hb⟩)))
    · exact h4.apart l hl p h q h2 hpq (hinn _ h') (hinn _ h2') b hb hb'
  · rcases hq with (hq | ⟨l', hl', p, hp, _, hb⟩) | hq
    · exact .inl ((h3 q).2 (.inl hq))
    · rw [hms] at hl'; cases hl'
      rcases mem_aset hnod hp with h | ⟨h, h'⟩
      · subst h; exact .inr hb
      · exact .inl ((h3 q).2 (.inr ⟨l, hl, p, h, hinn _ h', hb⟩))
    · exact hq.elim
/-- a key is struck -/
theorem S_delR {ho : Option (K × Option Addr × Nat)} (hM : SH F w0 w L) (i : Nat) (hc : nth L i = some (.mpr r G KE e s E m ho)) (hk : KeyT P kt KE) {t' : TypeId} (hu : P.underlying t = some (.map kt et)) (hx : ev φ x = .map r) (hy : ev φ y = KE k) (hh : ∀ q, ho.map (·.1) = some q → q = k) :
    EX P φ ⟨d, .call ⟨.builtin .delete, #[x, y], #[t, t']⟩, ty, ps, af, gd⟩ w fun v w' => ∃ G', v = .tuple #[] ∧ SH F w0 w' (put L i (.mpr r G' KE e s E (mdel m k) none)) ∧ Keeps G w w' := by
  obtain ⟨m', h1, h2, h3, h4, h5⟩ := hM.mpr i hc
  have h0 := SH.single (c := .mpf r KE Sd.V m') h1
  obtain ⟨v, w', hr, hv, hS, hK⟩ := S_delF (d := d) (ty := ty) (ps := ps) (af := af) (g := gd) (t' := t') h0 0 rfl hk hu hx hy
  have hF : MapF w' r KE Sd.V (mdel m' k) := hS.mpf 0 rfl
  have hinn : ∀ q, q ≠ k → inn (ho.map (·.1)) q := fun q hq q' hq' => by rw [hh q' hq']; exact fun e => hq e.symm
  have hst : ∀ {A' c' x'}, OwnA w e s A' c' x' E → (∀ q, inBlk A' q → r ≠ some q) → OwnA w' e s A' c' x' E := fun {A' c' x'} ho' hr' => (Ck.own e s A' c' x' E).st w w' (fun q hq => hK.block q ((Ck.own e s A' c' x' E).lt w ho' q hq) (by
    rcases hq with hq | hq
    · exact fun h => hr' q hq h
    · exact hq.elim)) ho'
  have hK2 : Keeps G w w' := hK.mono fun q hq => (h3 q).2 (.inl hq)
  have hdel : ∀ l', mdel m' k = some l' → ∃ l, m' = some l ∧ ∀ p ∈ l', p ∈ l ∧ p.1 ≠ k := fun l' hl' => by
    cases hm : m' with
    | none => rw [hm] at hl'; cases hl'
    | some l =>
      rw [hm] at hl'; cases hl'
      exact ⟨l, rfl, fun p hp => mem_adel (h1.keys hm) hp⟩
  refine ⟨v, w', hr, foot r (mdel m' k) none, hv, hM.upd hc hK2 (c' := .mpr r (foot r (mdel m' k) none) KE e s E (mdel m k) none) ⟨mdel m' k, hF, by rw [er_del, h2], fun _ => Iff.rfl, ⟨fun l' hl' p hp _ => ?_, fun l' hl' p hp q hq hpq _ _ b hb hb' => ?_⟩, fun _ _ _ he => by cases he⟩ (fun q hq => .inl ?_) (fun q hq => hq.elim), hK2⟩
  · obtain ⟨l, hl, hmem⟩ := hdel l' hl'
    obtain ⟨h, h'⟩ := hmem p hp
    obtain ⟨ha, hb⟩ := h4.own l hl p h (hinn _ h')
    exact ⟨hst ha hb, hb⟩
  · obtain ⟨l, hl, hmem⟩ := hdel l' hl'
    exact h4.apart l hl p (hmem p hp).1 q (hmem q hq).1 hpq (hinn _ (hmem p hp).2) (hinn _ (hmem q hq).2) b hb hb'
  · rcases hq with hq | ⟨l', hl', p, hp, _, hb⟩
    · exact (h3 q).2 (.inl hq)
    · obtain ⟨l, hl, hmem⟩ := hdel l' hl'
      exact (h3 q).2 (.inr ⟨l, hl, p, (hmem p hp).1, hinn _ (hmem p hp).2, hb⟩)
theorem S_makeMapR (hM : SH F w0 w L) (KE : K → Value) (e s : Nat) (E : α → List Value) : EX P φ ⟨d, .makeMap t none, ty, ps, af, gd⟩ w fun v w' => ∃ B G, v = .map (some B) ∧ SH F w0 w' (.mpr (some B) G KE e s E mnew none :: L) ∧ Keeps none_ w w' := by
  refine ⟨.map (some w.heap.size), w.alloc (.map #[] 0), ?_, w.heap.size, foot (some w.heap.size) (some ([] : List (K × Sd α))) none, rfl, hM.add (Keeps.alloc _ _ _) (c' := .mpr (some w.heap.size) (foot (some w.heap.size) (some ([] : List (K × Sd α))) none) KE e s E mnew none) ⟨some [], .inr ⟨_, [], #[], 0, rfl, rfl, At.new _ _, ⟨rfl, rfl, by simp, by simp, by simp⟩⟩, rfl, fun _ => Iff.rfl, ⟨fun l hl p hp => (by cases hl; cases hp), fun l hl p hp => (by cases hl; cases hp)⟩, fun _ _ _ he => by cases he⟩ (fun k hk => ?_) (fun k hk => hk.elim), Keeps.alloc _ _ _⟩
  · simp [execOp, Instr.makeMap, newObj]
    rfl
  · rcases hk with hk | ⟨l, hl, p, hp, _⟩
    · cases hk; exact Nat.le_refl _
    · cases hl; cases hp
/-- a map that is none -/
theorem SH.addNilR (h : SH F w0 w L) (KE : K → Value) (e s : Nat) (E : α → List Value) : SH F w0 w (.mpr none none_ KE e s E none none :: L) :=
  h.add (Keeps.refl _ _) (c' := .mpr none none_ KE e s E none none) ⟨none, .inl ⟨rfl, rfl⟩, rfl, fun q => ⟨fun h => h.elim, fun h => by rcases h with h | ⟨l, hl, _⟩; cases h; cases hl⟩, ⟨fun l hl => (by cases hl), fun l hl => (by cases hl)⟩, fun _ _ _ he => by cases he⟩ (fun _ hk => hk.elim) (fun _ hk => hk.elim)
omit [DecidableEq K] in
theorem SH.addNilF (h : SH F w0 w L) {V : Type} (KE : K → Value) (VE : V → Value) : SH F w0 w (.mpf none KE VE none :: L) :=
  h.add (Keeps.refl _ _) (c' := .mpf none KE VE none) (.inl ⟨rfl, rfl⟩) (fun _ hk => by cases hk) (fun _ hk => hk.elim)
end
end
end Go.Hw
