/- Slices of slices, rows of none, and appends of whatever lies somewhere. -/
import Derived.Test.YtjahbhpcaenllaaHwDraw
namespace Go.Hw
open Go

section
variable {P : Program} {w : World} {ρ : Operand → Value} {d : Option Tmp} {ty t e : TypeId} {ps : String} {af : Array Edge} {g : Option (Nat × Bool)} {x y : Operand} {z v : Value} {s b n m c : Nat} {A : Option Addr} {xs news : List Value}

theorem owns_slice {base size : Nat} (h : w.ownsRow base e size v n xs) : ∃ A c, v = .slice A n c ∧ n ≤ c ∧ Row w A xs ∧ Value.ownBlock v = A.map (·.block) := by
  have h' := h
  rcases h.2 with ⟨hv, h0⟩ | ⟨gg, cap, cur, hv, hb, hg, hnc, hm, hs, ht⟩
  · subst h0; exact ⟨none, 0, hv, Nat.le_refl _, .inl (List.eq_nil_of_length_eq_zero (by rw [h.1]; simp)), by rw [hv]; rfl⟩
  · subst hv; exact ⟨_, _, rfl, hnc, Row.of_owns h', rfl⟩

theorem owns_cast {base size n' : Nat} {ys : List Value} (h : w.ownsRow base e size v n xs) (hn : n = n') (hx : xs = ys) : w.ownsRow base e size v n' ys := by subst hn; subst hx; exact h
theorem owns_none {base size : Nat} (h : w.ownsRow base e size (.slice A n c) n xs) (hA : A = none) : n = 0 := by
  rcases h.2 with ⟨_, h0⟩ | ⟨gg, cap, cur, hv, _⟩
  · exact h0
  · cases hv; cases hA
theorem owns_cap {base size : Nat} (h : w.ownsRow base e size (.slice A n c) n xs) : n ≤ c := by
  rcases h.2 with ⟨hv, h0⟩ | ⟨gg, cap, cur, hv, hb, hg, hnc, _⟩
  · omega
  · cases hv; exact hnc
theorem owns_spot {base size : Nat} (h : w.ownsRow base e size (.slice A n c) n xs) (a : Addr) (hA : A = some a) : a.spot = none := by
  rcases h.2 with ⟨hv, h0⟩ | ⟨gg, cap, cur, hv, _⟩
  · cases hv; cases hA
  · cases hv; cases hA; rfl
theorem from_none {k : Nat} (hA : A = none → n = 0) (h : (if c = k then A else A.map (·.add (k * 1))) = none) : n - k = 0 := by
  have : A = none := by split at h; exact h; simpa using h
  rw [hA this]; simp
theorem from_spot {k : Nat} (hA : ∀ a, A = some a → a.spot = none) (a : Addr) (h : (if c = k then A else A.map (·.add (k * 1))) = some a) : a.spot = none := by
  split at h
  · exact hA a h
  · cases hA' : A with
    | none => rw [hA'] at h; cases h
    | some x =>
      rw [hA'] at h
      simp only [Option.map_some, Option.some.injEq] at h
      have := hA x hA'
      subst h
      unfold Addr.add; split <;> simp_all
theorem Row.elem1' {α : Type} {f : α → Value} {l : List α} (h : Row w A (l.map f)) : ∃ b o, (l ≠ [] → A = some ⟨b, o, none⟩) ∧ ∀ i (hi : i < l.length), w.cell? ⟨b, o + i * 1, none⟩ = some (f l[i]) := by
  by_cases hl : l = []
  · exact ⟨0, 0, fun h => absurd hl h, fun i hi => by rw [hl] at hi; simp at hi⟩
  · have : 0 < l.length := by cases l with | nil => exact absurd rfl hl | cons a l => simp
    obtain ⟨b, o, h1, h2⟩ := h.elem1 this
    exact ⟨b, o, fun _ => h1, h2⟩

/-- out[:k] -/
theorem X_sliceTo {k : Nat} {kk : IntKind} (hu : P.underlying t = some (.slice e)) (hi : Inf P e z s b) (hx : ρ x = .slice A n c) (hy : ρ y = .int kk k) (hk : k ≤ c) :
    (execOp ρ ⟨d, .slice t x none (some y) none, ty, ps, af, g⟩).run P w = .ok (.value (.slice A k c)) w := by
  have h0 : A.map (·.add 0) = A := by cases A <;> simp [Addr.add]
  simp [execOp, hx, hy, Instr.sliceAt, Instr.slice, run_underlying hu, Instr.sliceBounds, Instr.sliceBound, asIntOf, hi.sizeOf, hk, h0]
/-- out[k:] -/
theorem X_sliceFrom {k : Nat} {kk : IntKind} (hu : P.underlying t = some (.slice e)) (hi : Inf P e z s b) (hx : ρ x = .slice A n c) (hy : ρ y = .int kk k) (hk : k ≤ n) :
    (execOp ρ ⟨d, .slice t x (some y) none none, ty, ps, af, g⟩).run P w = .ok (.value (.slice (if c = k then A else A.map (·.add (k * s))) (n - k) (c - k))) w := by
  simp [execOp, hx, hy, Instr.sliceAt, Instr.slice, run_underlying hu, Instr.sliceBounds, Instr.sliceBound, asIntOf, hi.sizeOf, hk]

theorem Row.take (h : Row w A xs) (k : Nat) : Row w A (xs.take k) := by
  rcases h with h | ⟨b, o, hA, hc⟩
  · left; rw [h]; simp
  · exact .inr ⟨b, o, hA, fun j u hu => hc j u (by
      rcases Nat.lt_or_ge j k with hj | hj
      · rwa [List.getElem?_take_of_lt hj] at hu
      · rw [List.getElem?_eq_none (by simp; omega)] at hu; cases hu)⟩
theorem Row.drop (h : Row w A xs) (k : Nat) : Row w (if c = k then A else A.map (·.add k)) (xs.drop k) ∨ (c = k ∧ xs.drop k ≠ []) := by
  rcases h with h | ⟨b, o, hA, hc⟩
  · left; left; rw [h]; simp
  · by_cases hck : c = k
    · by_cases hd : xs.drop k = []
      · exact .inl (.inl hd)
      · exact .inr ⟨hck, hd⟩
    · left; right
      refine ⟨b, o + k, ?_, fun j u hu => ?_⟩
      · rw [if_neg hck, hA]
        simp only [Option.map_some]
        congr 1
        unfold Addr.add; split
        · rename_i h; rw [h]; rfl
        · rfl
      · rw [Nat.add_assoc]; exact hc (k + j) u (by rwa [List.getElem?_drop] at hu)
theorem Row.dropc (h : Row w A xs) {k : Nat} (hc : xs.length ≤ c) : Row w (if c = k then A else A.map (·.add (k * 1))) (xs.drop k) := by
  rw [Nat.mul_one]
  rcases Nat.lt_or_ge k xs.length with hk | hk
  · rcases h.drop (c := c) k with h | ⟨h1, _⟩
    · exact h
    · omega
  · left; exact List.drop_of_length_le hk

/-- a row of none -/
theorem X_buildSlice0 (hu : P.underlying t = some (.slice e)) (hi : Inf P e z s b) : (execOp ρ ⟨d, .buildSlice t 0 #[], ty, ps, af, g⟩).run P w = .ok (.value (.slice (some ⟨w.heap.size, 0, none⟩) 0 0)) (w.alloc (.cells #[] e)) := by
  have h0 : Array.range 0 = #[] := by decide
  simp [execOp, Instr.buildSlice, run_underlying hu, hi.sizeOf, Instr.fill, newRow, newObj, h0]
  rfl

theorem X_appendR (hu : P.underlying t = some (.slice e)) (hi : Inf P e z (s + 1) b) (hz : z.cells.size = s + 1) (hx : ρ x = v) (hown : w.ownsRow 0 e (s + 1) v n xs) (hy : ρ y = .slice A m c) (hr : Row w A news) (hm0 : A = none → m = 0)
    (hl : news.length = m * (s + 1)) (hsp : ∀ a, A = some a → a.spot = none) (h1 : ∀ u ∈ news, u.oneCell' = true) (hb : (n + m) * b ≤ 140737488355328) (hm : n + m ≤ 140737488355328) :
    ∃ v' w', (execOp ρ ⟨d, .call ⟨.builtin .append, #[x, y], #[t, t]⟩, ty, ps, af, g⟩).run P w = .ok (.value v') w' ∧ w'.ownsRow 0 e (s + 1) v' (n + m) (xs ++ news) ∧ w.grownBy w' v.ownBlock ∧ (v'.ownBlock = v.ownBlock ∨ v'.ownBlock = some w.heap.size) := by
  cases A with
  | none =>
    have := hm0 rfl; subst this
    have : news = [] := List.eq_nil_of_length_eq_zero (by rw [hl]; simp)
    subst this
    obtain ⟨i, hi1, hi2, hi3, hi4⟩ := hi.parts
    obtain ⟨A', c', hv, hc', _, _⟩ := owns_slice hown
    refine ⟨v, w, ?_, by simpa using hown, ⟨rfl, rfl, rfl, Nat.le_refl _, fun _ _ _ => rfl⟩, .inl rfl⟩
    subst hx
    have hr : (Builtin.append_ #[t, t] ty #[ρ x, .slice none 0 c]).run P w = .ok (ρ x) w := by
      rw [hv]
      cases A' <;> simp [Builtin.append_, run_underlying hu, sizeOf, typeInfo, hi1, Builtin.lenOf, hc', Builtin.firstCells, storeCells]
    simp [execOp, resolve, hy, invoke, builtin, hr]
  | some a =>
    obtain ⟨bl, o, sp⟩ := a
    have := hsp _ rfl
    simp only at this
    subst this
    refine X_append hu hi hz hx hown hy hl ?_ h1 hb hm
    rcases hr with rfl | ⟨b', o', h, hc⟩
    · intro j u hu; simp at hu
    · cases h; exact hc
end

section
variable {P : Program} {n : Nat} {Q : Exit → Fr → World → Prop} {φ : Fr} {w : World} {ops : Array Oper} {o : Oper} {v : Value} {S : Array Bool → World → Prop} {fuel i : Nat} {L : Array Bool} {rest : List Oper}
theorem SK.next' {w0 : World} {M : Nat → Prop} {i : Nat} {w' : World} (hS : SK w0 L w) (h : Keeps M w w') (hm : ∀ k, k < w0.heap.size → M k → False) : SK w0 (L.setIfInBounds i true) w' := ⟨hS.1.trans_new h hm, by simp⟩
theorem RD.lit0 {t el : TypeId} {z : Value} {s b : Nat} (hr : (Region.ready .any ops L).contains i = true) (hc : Closed .any ops L) (hi : ops[i]? = some o) (ho : o.op = .buildSlice t 0 #[]) (hg : o.guard = none) {dd : Nat} (hd : Dst n o.dst dd)
    (hu : P.underlying t = some (.slice el)) (hI : Inf P el z s b) (hS' : ∀ w', Keeps none_ w w' → S (L.setIfInBounds i true) w')
    (h : ∀ B w', w.heap.size ≤ B → w'.ownsRow 0 el s (.slice (some ⟨B, 0, none⟩) 0 0) 0 [] → Keeps none_ w w' → Closed .any ops (L.setIfInBounds i true) → S (L.setIfInBounds i true) w' → RD P n ops S Q fuel (L.setIfInBounds i true) (upd φ dd (.slice (some ⟨B, 0, none⟩) 0 0)) w') : RS P n ops S Q fuel L φ w i := by
  have hx' : ∀ o : Oper, o.op = .buildSlice t 0 #[] → (execOp (ev φ) o).run P w = .ok (.value (.slice (some ⟨w.heap.size, 0, none⟩) 0 0)) (w.alloc (.cells #[] el)) := fun o ho => by
    obtain ⟨d, op, ty, ps, af, g⟩ := o
    cases ho
    exact X_buildSlice0 hu hI
  have hK := Keeps.alloc none_ w (.cells #[] el)
  exact RS.eff hr hc hi hg (hx' o ho) hd (hS' _ hK) fun hcl => h _ _ (Nat.le_refl _) (World.ownsRow_made w #[] 0 (Nat.zero_le _) (by decide) (by simp)) hK hcl (hS' _ hK)
theorem RD.appendR {t e : TypeId} {x y : Operand} {z u : Value} {s b n' m c : Nat} {A : Option Addr} {xs news : List Value} (hr : (Region.ready .any ops L).contains i = true) (hc : Closed .any ops L) (hi : ops[i]? = some o) (ho : o.op = .call ⟨.builtin .append, #[x, y], #[t, t]⟩) (hg : o.guard = none) {dd : Nat} (hd : Dst n o.dst dd)
    (hu : P.underlying t = some (.slice e)) (hI : Inf P e z (s + 1) b) (hz : z.cells.size = s + 1) (hx : ev φ x = u) (hown : w.ownsRow 0 e (s + 1) u n' xs) (hy : ev φ y = .slice A m c) (hrow : Row w A news) (hm0 : A = none → m = 0)
    (hl : news.length = m * (s + 1)) (hsp : ∀ a, A = some a → a.spot = none) (h1 : ∀ u ∈ news, u.oneCell' = true) (hb : (n' + m) * b ≤ 140737488355328) (hm : n' + m ≤ 140737488355328)
    (hS' : ∀ w', Keeps (fun k => u.ownBlock = some k) w w' → S (L.setIfInBounds i true) w')
    (h : ∀ v' w', w'.ownsRow 0 e (s + 1) v' (n' + m) (xs ++ news) → Keeps (fun k => u.ownBlock = some k) w w' → (v'.ownBlock = u.ownBlock ∨ v'.ownBlock = some w.heap.size) → Closed .any ops (L.setIfInBounds i true) → S (L.setIfInBounds i true) w' → RD P n ops S Q fuel (L.setIfInBounds i true) (upd φ dd v') w') : RS P n ops S Q fuel L φ w i := by
  obtain ⟨d, op, ty, ps, af, g⟩ := o
  cases ho
  obtain ⟨v', w', h2, h3, h4, h5⟩ := X_appendR (d := d) (ty := ty) (ps := ps) (af := af) (g := g) hu hI hz hx hown hy hrow hm0 hl hsp h1 hb hm
  have hK := Keeps.grown (M := fun k => u.ownBlock = some k) h4 fun k hk => hk
  exact RS.eff hr hc hi hg h2 hd (hS' _ hK) fun hcl => h v' w' h3 hK h5 hcl (hS' _ hK)
end
end Go.Hw
