/- Slices over the list of pieces: literals, appends, parts, results; and what a model is made of. -/
import Derived.Test.YtjahbhpcaenllaaHwSep
namespace Go.Hw
open Go

/-! ### what a model is made of -/
def chk {α : Type} (p : Prop) [Decidable p] (m : Option α) : Option α := if p then m else none
theorem chk_out {α : Type} {p : Prop} [Decidable p] {m : Option α} {y : α} (h : chk p m = some y) : p ∧ m = some y := by
  unfold chk at h
  split at h
  · exact ⟨‹p›, h⟩
  · cases h
theorem chk_in {α : Type} {p : Prop} [Decidable p] {m : Option α} (h : p) : chk p m = m := if_pos h
theorem bnd_out {α β : Type} {m : Option β} {f : β → Option α} {y : α} (h : m.bind f = some y) : ∃ x, m = some x ∧ f x = some y := by
  cases m with
  | none => cases h
  | some x => exact ⟨x, rfl, h⟩
theorem brT {α : Type} {c : Bool} {a b : Option α} {y : α} (hc : c = true) (h : (bif c then a else b) = some y) : a = some y := by subst hc; exact h
theorem brF {α : Type} {c : Bool} {a b : Option α} {y : α} (hc : c = false) (h : (bif c then a else b) = some y) : b = some y := by subst hc; exact h
/-- as many rounds as no loop does -/
def N0 : Nat := 4611686018427387904
/-- as many elements as no slice has -/
def fits (n : Nat) : Prop := n ≤ 68719476736
instance (n : Nat) : Decidable (fits n) := inferInstanceAs (Decidable (_ ≤ _))
abbrev w64 (n : Int) : Int := IntKind.i64.wrap n
def inrle (n : Nat) (i : Int) : Prop := 0 ≤ i ∧ i ≤ (n : Int)
instance (n : Nat) (i : Int) : Decidable (inrle n i) := inferInstanceAs (Decidable (_ ∧ _))

theorem inrle_le {n : Nat} {i : Int} (h : inrle n i) : i.toNat ≤ n := by obtain ⟨h1, h2⟩ := h; omega
/-! ### slices -/
/-- a slice's cells, and that there is room for what it has -/
def SL {α : Type} (w : World) (A : Option Addr) (c : Nat) (l : List α) (E : α → List Value) : Prop := Row w A (l.flatMap E) ∧ l.length ≤ c
def Ck.sl {α : Type} (A : Option Addr) (c : Nat) (l : List α) (E : α → List Value) : Ck where
  f := none_
  r := (Ck.row A l E).r
  P w := SL w A c l E
  lt w h := (Ck.row A l E).lt w h.1
  st w w' h hP := ⟨(Ck.row A l E).st w w' h hP.1, hP.2⟩

section
variable {P : Program} {n : Nat} {φ : Fr} {w w' : World} {o : Oper} {F : Nat → Prop} {w0 : World} {L : List Ck} {d : Option Tmp} {ty t e : TypeId} {ps : String} {af : Array Edge} {g : Option (Nat × Bool)} {x y : Operand} {v zv : Value} {s b c m : Nat} {A : Option Addr}
variable {α : Type} {l ys : List α} {E : α → List Value} {k : IntKind} {i : Int} {ρ : Operand → Value}

theorem SH.sl (h : SH F w0 w L) (i : Nat) (hi : nth L i = some (.sl A c l E)) : SL w A c l E := h.get hi
theorem SH.ownsl (h : SH F w0 w L) (i : Nat) (hi : nth L i = some (.own e s A c l E)) : SL w A c l E := ⟨h.ownrow i hi, (h.own i hi).cap⟩
theorem SL.nil : SL w none 0 ([] : List α) E := ⟨.inl rfl, Nat.le_refl _⟩
theorem SL.spot (hE : Enc E s) (h : SL w A c l E) (hl : l ≠ []) : IsA A := by
  have : 0 < l.length := by cases l with | nil => exact absurd rfl hl | cons a l => simp
  exact el_isA (i := 0) hE h.1 (inr_idx ⟨by omega, by omega⟩ (l[0]))

/-- where the part behind so many elements begins -/
def sA (A : Option Addr) (c k s : Nat) : Option Addr := if c = k then A else A.map (·.add (k * s))
theorem X_lenE {lt : TypeId} (hu : P.underlying t = some (.slice lt)) (hx : ρ x = .slice A l.length c) : (execOp ρ ⟨d, .call ⟨.builtin .len, #[x], #[t]⟩, ty, ps, af, g⟩).run P w = .ok (.value (.int .i64 (l.length : Int))) w := X_len hu hx
theorem X_takeE (hu : P.underlying t = some (.slice e)) (hi : Inf P e zv s b) (hx : ρ x = .slice A l.length c) (hy : ρ y = .int k i) (h : inrle l.length i) (hc : l.length ≤ c) :
    (execOp ρ ⟨d, .slice t x none (some y) none, ty, ps, af, g⟩).run P w = .ok (.value (.slice A (l.take i.toNat).length c)) w := by
  obtain ⟨j, rfl⟩ : ∃ j : Nat, i = j := ⟨i.toNat, by have := h.1; omega⟩
  have h2 : j ≤ l.length := by have := h.2; omega
  rw [X_sliceTo hu hi hx hy (by omega)]
  simp [Nat.min_eq_left h2]
theorem X_dropE (hu : P.underlying t = some (.slice e)) (hi : Inf P e zv s b) (hx : ρ x = .slice A l.length c) (hy : ρ y = .int k i) (h : inrle l.length i) :
    (execOp ρ ⟨d, .slice t x (some y) none none, ty, ps, af, g⟩).run P w = .ok (.value (.slice (sA A c i.toNat s) (l.drop i.toNat).length (c - i.toNat))) w := by
  obtain ⟨j, rfl⟩ : ∃ j : Nat, i = j := ⟨i.toNat, by have := h.1; omega⟩
  rw [X_sliceFrom hu hi hx hy (by have := h.2; omega)]
  simp [sA]
theorem SL.take (h : SL w A c l E) (k : Nat) : SL w A c (l.take k) E := by
  refine ⟨?_, by have := h.2; simp; omega⟩
  by_cases hl : (l.take k).flatMap E = []
  · exact .inl hl
  · have he : l.flatMap E = (l.take k).flatMap E ++ (l.drop k).flatMap E := by rw [← List.flatMap_append, List.take_append_drop]
    rcases h.1 with h1 | ⟨b, o, hA, hc⟩
    · rw [h1] at he; have := List.append_eq_nil_iff.1 he.symm; exact absurd this.1 hl
    · exact .inr ⟨b, o, hA, fun j u hu => hc j u (by
        rw [he]
        rw [List.getElem?_append_left]; exact hu
        rcases Nat.lt_or_ge j ((l.take k).flatMap E).length with h | h
        · exact h
        · rw [List.getElem?_eq_none h] at hu; cases hu)⟩
theorem SL.drop (hE : Enc E s) (h : SL w A c l E) (k : Nat) : SL w (sA A c k (s + 1)) (c - k) (l.drop k) E := by
  refine ⟨?_, by have := h.2; simp; omega⟩
  rcases Nat.lt_or_ge k l.length with hk | hk
  · have hck : c ≠ k := by have := h.2; omega
    have hl : (l.take k).flatMap E ++ (l.drop k).flatMap E = l.flatMap E := by rw [← List.flatMap_append, List.take_append_drop]
    have hlen : ((l.take k).flatMap E).length = k * (s + 1) := by rw [flat_len E (s + 1) hE.len]; simp [Nat.min_eq_left (Nat.le_of_lt hk)]
    rcases h.1 with h1 | ⟨b, o, hA, hc⟩
    · left; rw [h1] at hl; exact (List.append_eq_nil_iff.1 hl).2
    · right
      refine ⟨b, o + k * (s + 1), ?_, fun j u hu => ?_⟩
      · unfold sA
        rw [if_neg hck, hA]
        simp only [Option.map_some]
        congr 1
        unfold Addr.add; split
        · rename_i h; rw [h]; rfl
        · rfl
      · rw [Nat.add_assoc]; refine hc _ u ?_
        rw [← hl, ← hlen, List.getElem?_append_right (Nat.le_add_right _ _), Nat.add_sub_cancel_left]; exact hu
  · left; rw [List.drop_of_length_le hk]; rfl

/-- nothing yet -/
theorem SH.addNil (h : SH F w0 w L) (e s : Nat) (E : α → List Value) : SH F w0 w (.own e s none 0 [] E :: L) :=
  h.add (Keeps.refl _ _) (c' := .own e s none 0 ([] : List α) E) (OwnA.nil _ _ _ _) (fun k hk => by obtain ⟨a, h, _⟩ := hk; cases h) (fun k hk => hk.elim)

theorem owns_full (hE : Enc E s) (hm : l.length ≤ maxLen) : OwnA (w.alloc (.cells (l.flatMap E).toArray e)) e (s + 1) (some ⟨w.heap.size, 0, none⟩) l.length l E :=
  ⟨flat_len E (s + 1) hE.len _, .inr ⟨w.heap.size, 0, _, rfl, heap_alloc_new w _, Nat.le_refl _, hm, by simpa using Nat.le_of_eq (flat_len E (s + 1) hE.len l).symm, by show List.take _ (List.drop 0 (l.flatMap E)) = _; rw [List.drop_zero, ← flat_len E (s + 1) hE.len l]; exact List.take_length⟩⟩
theorem inNew {k m : Nat} (h : inBlk (some ⟨m, 0, none⟩) k) : m ≤ k := by obtain ⟨a, h1, h2⟩ := h; cases h1; exact Nat.le_of_eq h2

theorem S_lit0 (hM : SH F w0 w L) (E : α → List Value) (hE : Enc E s) (hu : P.underlying t = some (.slice e)) (hi : Inf P e zv (s + 1) b) :
    EX P φ ⟨d, .buildSlice t 0 #[], ty, ps, af, g⟩ w fun v w' => ∃ A c, v = .slice A ([] : List α).length c ∧ SH F w0 w' (.own e (s + 1) A c [] E :: L) ∧ Keeps none_ w w' :=
  ⟨_, _, X_buildSlice0 hu hi, some ⟨w.heap.size, 0, none⟩, 0, rfl, hM.add (Keeps.alloc _ _ _) (c' := .own e (s + 1) (some ⟨w.heap.size, 0, none⟩) 0 [] E) (owns_full (l := []) hE (Nat.zero_le _)) (fun _ hk => inNew hk) (fun _ hk => hk.elim), Keeps.alloc _ _ _⟩
theorem S_lit1 (hM : SH F w0 w L) (E : α → List Value) (hE : Enc E s) (a : α) (hu : P.underlying t = some (.slice e)) (hi : Inf P e zv (s + 1) b) (hz : Nat.beq zv.cells.size (s + 1) = true) (hs : Nat.blt s 1000 = true) (hx : ev φ x = v) (hv : v.cells = (E a).toArray) :
    EX P φ ⟨d, .buildSlice t 1 #[(0, x)], ty, ps, af, g⟩ w fun v w' => ∃ A c, v = .slice A [a].length c ∧ SH F w0 w' (.own e (s + 1) A c [a] E :: L) ∧ Keeps none_ w w' := by
  have hx' := X_buildSlice1 (P := P) (w := w) (ρ := ev φ) (d := d) (ty := ty) (ps := ps) (af := af) (g := g) hu hi (Nat.eq_of_beq_eq_true hz) (Nat.blt_eq.mp hs) hx (by rw [hv]; simpa using hE.len a)
  refine ⟨_, _, hx', some ⟨w.heap.size, 0, none⟩, 1, rfl, hM.add (Keeps.alloc _ _ _) (c' := .own e (s + 1) (some ⟨w.heap.size, 0, none⟩) 1 [a] E) ?_ (fun _ hk => inNew hk) (fun k hk => hk.elim), Keeps.alloc _ _ _⟩
  rw [hv]
  have := owns_full (w := w) (e := e) (l := [a]) hE (show 1 ≤ maxLen by decide)
  simpa [Ck.own] using this

theorem run_append_mid {i : TypeInfo} (hu : P.underlying t = some (.slice e)) (hi : P.info? e = some i) {gg o n cap : Nat} {cur : Array Value} (hg : At w gg (.cells cur e (0, 0))) {a : Addr} {m c : Nat} {news : List Value} (hl : news.length = m * i.size) (hnews : ∀ j u, news[j]? = some u → w.cell? (a.add j) = some u)
    (h1 : ∀ u ∈ news, u.oneCell' = true) (hroom : n + m ≤ cap) (hfit : o + n * i.size + news.length ≤ cur.size) :
    (Builtin.append_ #[t, t] ty #[.slice (some ⟨gg, o, none⟩) n cap, .slice (some a) m c]).run P w = .ok (.slice (some ⟨gg, o, none⟩) (n + m) cap) (w.setRow gg (cur.toList.take (o + n * i.size) ++ news ++ cur.toList.drop (o + n * i.size + news.length)).toArray) := by
  have hfc := run_firstCells_some (P := P) w i.size m a m c news hl hnews
  have hst := run_storeCells_at P gg (o + n * i.size) e news 0 cur w hg (by simpa using hfit) h1
  simp only [Nat.add_zero] at hst
  simp [Builtin.append_, run_underlying hu, sizeOf, typeInfo, hi, Builtin.lenOf, hroom, hfc, Addr.add_lit, hst]

theorem add_mid (b o j : Nat) : (⟨b, o, none⟩ : Addr).add j = ⟨b, o + j, none⟩ := by
  unfold Addr.add; split
  · rename_i h; rw [h]; rfl
  · rfl
theorem S_append (hM : SH F w0 w L) (j : Nat) {A2 : Option Addr} {c2 : Nat} (hc : nth L j = some (.own e (s + 1) A c l E)) (hE : Enc E s) (hu : P.underlying t = some (.slice e)) (hi : Inf P e zv (s + 1) b) (hz : Nat.beq zv.cells.size (s + 1) = true) (hbb : Nat.ble b 1024 = true)
    (hx : ev φ x = .slice A l.length c) (hy : ev φ y = .slice A2 ys.length c2) (hr : SL w A2 c2 ys E) (hf : fits (l ++ ys).length) :
    EX P φ ⟨d, .call ⟨.builtin .append, #[x, y], #[t, t]⟩, ty, ps, af, g⟩ w fun v w' => ∃ A' c', v = .slice A' (l ++ ys).length c' ∧ SH F w0 w' (put L j (.own e (s + 1) A' c' (l ++ ys) E)) ∧ Keeps (Ck.own e (s + 1) A c l E).f w w' := by
  have ho := hM.own j hc
  obtain ⟨i, hi1, hi2, hi3, hi4⟩ := hi.parts
  have hex : ∀ {v : Value} {w' : World}, (Builtin.append_ #[t, t] ty #[.slice A l.length c, .slice A2 ys.length c2]).run P w = .ok v w' → (execOp (ev φ) ⟨d, .call ⟨.builtin .append, #[x, y], #[t, t]⟩, ty, ps, af, g⟩).run P w = .ok (.value v) w' := fun hr => by
    simp [execOp, resolve, hx, hy, invoke, builtin, hr]
  by_cases hys : ys = []
  · subst hys
    refine ⟨.slice A l.length c, w, hex ?_, A, c, by simp, ?_, Keeps.refl _ _⟩
    · have hlc := ho.cap
      cases A <;> cases A2 <;> simp [Builtin.append_, run_underlying hu, sizeOf, typeInfo, hi1, Builtin.lenOf, hlc, Builtin.firstCells, storeCells, loadCells, loadCellsFrom]
    · simp only [List.append_nil]
      exact hM.upd hc (Keeps.refl _ _) (c' := .own e (s + 1) A c l E) ho (fun k hk => .inl hk) (fun k hk => hk.elim)
  · obtain ⟨b0, o0, hA2⟩ := hr.spot hE hys
    have hl2 : (l ++ ys).length = l.length + ys.length := List.length_append
    unfold fits at hf
    have hb' := Nat.le_of_ble_eq_true hbb
    have hbytes : (l.length + ys.length) * i.bytes ≤ 140737488355328 := by rw [← hl2, hi4]; exact Nat.le_trans (Nat.mul_le_mul hf hb') (by decide)
    have hml : l.length + ys.length ≤ maxLen := by rw [← hl2]; exact Nat.le_trans hf (by decide)
    have hlen : (ys.flatMap E).length = ys.length * i.size := by rw [hi3]; exact flat_len E (s + 1) hE.len ys
    have hone : ∀ u ∈ ys.flatMap E, u.oneCell' = true := fun u hu => by obtain ⟨z, _, hz⟩ := List.mem_flatMap.1 hu; exact List.all_eq_true.1 (hE.one z) u hz
    subst hA2
    have hnews : ∀ j u, (ys.flatMap E)[j]? = some u → w.cell? ((⟨b0, o0, none⟩ : Addr).add j) = some u := fun j u hu => by
      rcases hr.1 with h0 | ⟨b', o', hA, hcell⟩
      · rw [h0] at hu; cases hu
      · cases hA; rw [add_mid]; exact hcell j u hu
    -- what the growing arm leaves
    have grown : ∀ old, old < l.length + ys.length → OwnA (w.drew.alloc (.cells ((l.flatMap E).toArray ++ (ys.flatMap E).toArray ++ Builtin.zeroCells zv.cells (grownCap w (l.length + ys.length) old e - (l.length + ys.length))) e)) e (s + 1) (some ⟨w.heap.size, 0, none⟩) (grownCap w (l.length + ys.length) old e) (l ++ ys) E := fun old _ => by
      have hge := grownCap_ge w (l.length + ys.length) old e
      refine ⟨flat_len E (s + 1) hE.len _, .inr ⟨w.heap.size, 0, _, rfl, heap_alloc_new w.drew _, by rw [hl2]; exact hge, grownCap_le_maxLen w _ old e hml, ?_, ?_⟩⟩
      · simp only [Array.size_append, List.size_toArray, size_zeroCells, Nat.eq_of_beq_eq_true hz, ho.1, flat_len E (s + 1) hE.len, Nat.zero_add, ← Nat.add_mul]
        exact Nat.mul_le_mul_right _ (by omega)
      · simp only [Array.toList_append, List.append_assoc, List.drop_zero]
        rw [← List.append_assoc, ← List.flatMap_append, ← flat_len E (s + 1) hE.len (l ++ ys)]
        exact List.take_left
    have hKal : ∀ o' : Obj, Keeps (Ck.own e (s + 1) A c l E).f w (w.drew.alloc o') := fun o' => ((Keeps.drew _ _).trans (Keeps.alloc _ _ _))
    have hfin : ∀ {o' : Obj} {cp : Nat}, OwnA (w.drew.alloc o') e (s + 1) (some ⟨w.heap.size, 0, none⟩) cp (l ++ ys) E → SH F w0 (w.drew.alloc o') (put L j (.own e (s + 1) (some ⟨w.heap.size, 0, none⟩) cp (l ++ ys) E)) := fun {o' cp} hP =>
      hM.upd hc (hKal _) (c' := .own e (s + 1) (some ⟨w.heap.size, 0, none⟩) cp (l ++ ys) E) hP (fun k hk => .inr (inNew hk)) (fun k hk => hk.elim)
    have hgrow : ∀ old, old < l.length + ys.length → Builtin.nextslicecap (l.length + ys.length) old * i.bytes ≤ 281474976710656 := fun old ho' => growslice_fits ho' hbytes
    rcases ho.2 with ⟨hA, hc0, hl0⟩ | ⟨gg, o, cur, hA, hg, hnc, hcm, hcs, htake⟩
    · subst hA; subst hc0; subst hl0
      have hpos : 0 < ys.length := by cases ys with | nil => exact absurd rfl hys | cons a l => simp
      have hr := run_append_nil (P := P) w t ty e i zv hu hi1 hi2 ⟨b0, o0, none⟩ ys.length c2 (ys.flatMap E) hlen hnews hpos (by simp only [maxLen, List.length_nil, Nat.zero_add] at hml; omega) (by simp only [List.length_nil, Nat.zero_add] at hbytes; omega)
      have hgr := grown 0 (by simpa using hpos)
      simp only [List.length_nil, Nat.zero_add, List.nil_append, List.flatMap_nil, Array.empty_append] at hgr hr ⊢
      refine ⟨_, _, hex hr, _, _, rfl, ?_, hKal _⟩
      exact hfin (by simpa using hgr)
    · subst hA
      by_cases hroom : l.length + ys.length ≤ c
      · have hms : (l.length + ys.length) * (s + 1) ≤ c * (s + 1) := Nat.mul_le_mul_right _ hroom
        rw [Nat.add_mul] at hms
        have hfit : o + l.length * i.size + (ys.flatMap E).length ≤ cur.size := by rw [hlen, hi3]; omega
        have hr := run_append_mid (P := P) (ty := ty) (c := c2) hu hi1 hg hlen hnews hone hroom hfit
        have hK : Keeps (Ck.own e (s + 1) (some ⟨gg, o, none⟩) c l E).f w (w.setRow gg (cur.toList.take (o + l.length * i.size) ++ ys.flatMap E ++ cur.toList.drop (o + l.length * i.size + (ys.flatMap E).length)).toArray) :=
          ⟨rfl, rfl, rfl, by simp [World.setRow], fun k _ hk => setRow_other w gg k _ (fun h => hk ⟨_, rfl, h.symm⟩)⟩
        refine ⟨_, _, hex hr, some ⟨gg, o, none⟩, c, by rw [hl2], hM.upd hc hK (c' := .own e (s + 1) (some ⟨gg, o, none⟩) c (l ++ ys) E) ?_ (fun k hk => .inl hk) (fun k hk => hk.elim), hK⟩
        refine ⟨flat_len E (s + 1) hE.len _, .inr ⟨gg, o, _, rfl, setRow_heap w gg cur _ e _ hg, by rw [hl2]; exact hroom, hcm, ?_, ?_⟩⟩
        · simp only [List.size_toArray, List.length_append, List.length_take, List.length_drop, Array.length_toList]
          omega
        · rw [List.toList_toArray, drop_splice _ _ _ _ (Nat.le_add_right _ _) (show o + l.length * i.size ≤ cur.toList.length by have := Array.length_toList (xs := cur); rw [hi3]; omega), Nat.add_sub_cancel_left, hi3, htake, ← List.flatMap_append, ← flat_len E (s + 1) hE.len (l ++ ys)]
          exact List.take_left
      · have holds : ∀ j u, (l.flatMap E)[j]? = some u → w.cell? ((⟨gg, o, none⟩ : Addr).add j) = some u := fun j u hu => by
          rcases ho.row with h0 | ⟨b', o', hA, hcell⟩
          · rw [h0] at hu; cases hu
          · cases hA; rw [add_mid]; exact hcell j u hu
        have hr := run_append_grow (P := P) w t ty e i zv hu hi1 hi2 ⟨gg, o, none⟩ l.length c (l.flatMap E) (by rw [hi3]; exact ho.1) holds ⟨b0, o0, none⟩ ys.length c2 (ys.flatMap E) hlen hnews (by omega) (by simp only [maxLen] at hml; omega) (hgrow c (by omega))
        exact ⟨_, _, hex hr, _, _, by rw [hl2], hfin (grown c (by omega)), hKal _⟩

/-! ### results -/
/-- a slice of the call's own -/
def OwnR (w w' : World) (e s : Nat) (E : α → List Value) (v : Value) (y : List α) : Prop := ∃ A c, v = .slice A y.length c ∧ (Ck.own e s A c y E).P w' ∧ ∀ k, (Ck.own e s A c y E).f k → w.heap.size ≤ k
theorem SH.addOwn (h : SH F w0 w L) (K : Keeps none_ w w') (ho : OwnR w w' e s E v l) : ∃ A c, v = .slice A l.length c ∧ SH F w0 w' (.own e s A c l E :: L) := by
  obtain ⟨A, c, hv, h1, h2⟩ := ho
  exact ⟨A, c, hv, h.add K h1 h2 (fun k hk => hk.elim)⟩
theorem SH.addOwnG {g : Bool} (h : SH F w0 w L) (K : Keeps none_ w w') (ho : g = true → OwnR w w' e s E v l) : ∃ A c, (g = true → v = .slice A l.length c) ∧ SH F w0 w' (.own e s A c (bif g then l else []) E :: L) := by
  cases g with
  | true => obtain ⟨A, c, h1, h2⟩ := h.addOwn K (ho rfl); exact ⟨A, c, fun _ => h1, h2⟩
  | false => exact ⟨none, 0, fun h => (by cases h), (h.keep K).addNil e s E⟩
theorem sl_on {g : Bool} (hg : g = true) (h : SL w A c (bif g then l else []) E) : SL w A c l E := by subst hg; exact h
theorem SH.ownR (h : SH none_ w0 w L) (i : Nat) (hi : nth L i = some (.own e s A c l E)) : OwnR w0 w e s E (.slice A l.length c) l :=
  ⟨A, c, rfl, h.get hi, fun k hk => (h.new i _ k hi hk).resolve_left fun h => h⟩
theorem OwnR.nil : OwnR w w' e s E (.slice none 0 0) ([] : List α) := ⟨none, 0, rfl, OwnA.nil _ _ _ _, fun k hk => by obtain ⟨a, h, _⟩ := hk; cases h⟩
end

/-- the worlds at a function's door -/
theorem SH.start (w : World) : SH none_ w w [] := ⟨Keeps.refl _ _, fun i c h => by simp [nth] at h, fun i j a b _ h => by simp [nth] at h, fun i c k h => by simp [nth] at h⟩
theorem SH.startSL {α : Type} {w : World} {L : List Ck} {A : Option Addr} {c : Nat} {l : List α} {E : α → List Value} (h : SH none_ w w L) (hr : SL w A c l E) : SH none_ w w (.sl A c l E :: L) :=
  h.add (Keeps.refl _ _) (c' := .sl A c l E) hr (fun _ hk => hk.elim) (fun k _ => .inr fun j b hb hf => by
    rcases h.new j b k hb hf with h1 | h1
    · exact h1
    · exact absurd (h.lt hb (.inl hf)) (Nat.not_lt_of_le h1))

section
variable {F : Nat → Prop} {w0 w : World} {L : List Ck} {α : Type} {l l' : List α} {E : α → List Value} {A A' : Option Addr} {c c' s e : Nat}
/-- a part, as a piece of its own -/
theorem SH.dup (h : SH F w0 w L) (i : Nat) (hi : nth L i = some (.sl A c l E)) (hP : SL w A' c' l' E) (hr : ∀ k, (Ck.sl A' c' l' E).r k → (Ck.sl A c l E).r k) : SH F w0 w (.sl A' c' l' E :: L) :=
  h.add (Keeps.refl _ _) (c' := .sl A' c' l' E) hP (fun _ hk => hk.elim) (fun k hk => .inr fun j b hb hf => by
    by_cases hj : j = i
    · subst hj; rw [hi] at hb; cases hb; exact hf
    · exact ((h.dis j i b _ hj hb hi) k).1 hf (.inr (hr k hk)))
theorem SH.freeze (h : SH F w0 w L) (i : Nat) (hi : nth L i = some (.own e s A c l E)) : SH F w0 w (put L i (.sl A c l E)) := by
  have ho := h.own i hi
  refine h.upd hi (Keeps.refl _ _) (c' := .sl A c l E) (h.ownsl i hi) (fun _ hk => hk.elim) fun k hk => .inl ?_
  exact hk.2
theorem sub_take (n : Nat) : ∀ k, (Ck.sl A c (l.take n) E).r k → (Ck.sl A c l E).r k := fun k ⟨hx, h⟩ => ⟨fun h0 => hx (by
  have h1 : (l.take n).flatMap E ++ (l.drop n).flatMap E = [] := by rw [← List.flatMap_append, List.take_append_drop]; exact h0
  exact (List.append_eq_nil_iff.1 h1).1), h⟩
theorem sub_drop (n : Nat) (hE : Enc E s) : ∀ k, (Ck.sl (sA A c n (s + 1)) (c - n) (l.drop n) E).r k → (Ck.sl A c l E).r k := fun k ⟨hx, a, h, hk⟩ => by
  have _ := hE
  refine ⟨fun h0 => hx (by
    have h1 : (l.take n).flatMap E ++ (l.drop n).flatMap E = [] := by rw [← List.flatMap_append, List.take_append_drop]; exact h0
    exact (List.append_eq_nil_iff.1 h1).2), ?_⟩
  unfold sA at h
  split at h
  · exact ⟨a, h, hk⟩
  · cases A with
    | none => cases h
    | some x =>
      simp only [Option.map_some, Option.some.injEq] at h
      subst h
      refine ⟨x, rfl, ?_⟩
      rw [← hk]
      unfold Addr.add
      split <;> rfl
theorem OwnR.len {w' : World} {n : Nat} (h : OwnR w w' e s E (.slice A l.length c) l) (hn : n = l.length) : OwnR w w' e s E (.slice A n c) l := by subst hn; exact h
end
theorem slen {v : Value} {A : Option Addr} {n m c : Nat} (h : v = .slice A n c) (hn : n = m) : v = .slice A m c := by subst hn; exact h
theorem gb_to {g : Bool} {v v' : Value} (h : g = true → v = v') : gb g v = gb g v' := by
  cases g with
  | true => rw [h rfl]
  | false => rfl
theorem ac {φ : Fr} {x : Operand} {l : List Operand} {v : Value} {vs : List Value} (h : ev φ x = v) (hl : l.map (ev φ) = vs) : (x :: l).map (ev φ) = v :: vs := by rw [List.map_cons, h, hl]
def eStr (x : ByteArray) : List Value := [.string x]
theorem eStr_ok : Enc eStr 0 := ⟨fun _ => rfl, fun _ => rfl⟩

section
variable {P : Program} {w : World} {t t' : TypeId} {ρ : Operand → Value} {d : Option Tmp} {ty : TypeId} {ps : String} {af : Array Edge} {g : Option (Nat × Bool)} {x y : Operand} {k : IntKind} {a e : Int}
theorem X_quow (hx : ρ x = .int k a) (hy : ρ y = .int k e) (h0 : e ≠ 0) : (execOp ρ ⟨d, .binOp .quo t x y t', ty, ps, af, g⟩).run P w = .ok (.value (.int k (k.wrap (a.tdiv e)))) w :=
  X_bin hx hy eqGuard_int (by simp [binOp, Op.intDiv, h0])
theorem X_remw (hx : ρ x = .int k a) (hy : ρ y = .int k e) (h0 : e ≠ 0) : (execOp ρ ⟨d, .binOp .rem t x y t', ty, ps, af, g⟩).run P w = .ok (.value (.int k (a.tmod e))) w :=
  X_bin hx hy eqGuard_int (by simp [binOp, Op.intDiv, h0])
theorem X_negw (hx : ρ x = .int k a) : (execOp ρ ⟨d, .unOp .neg t x, ty, ps, af, g⟩).run P w = .ok (.value (.int k (k.wrap (-a)))) w := by
  have h : k.wrap (0 - a) = k.wrap (-a) := by congr 1; omega
  simp only [execOp, hx]
  show Result.ok (Next.value (.int k (k.wrap (0 - a)))) w = _
  rw [h]
end
end Go.Hw
