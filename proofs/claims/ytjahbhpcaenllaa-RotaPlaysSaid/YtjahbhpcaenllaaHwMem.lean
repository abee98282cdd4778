/- Memory: rows, new blocks, appends. -/
import Derived.Test.YtjahbhpcaenllaaHwOps
import Derived.Maps.AppendAt
import Derived.Below
namespace Go.Hw
open Go Go.RowKit

section
variable {P : Program} {w w' : World}

/-- block g is this object -/
def At (w : World) (g : Nat) (o : Obj) : Prop := w.heap[g]? = some o

theorem At.lt {g : Nat} {o : Obj} (h : At w g o) : g < w.heap.size := by
  rcases Nat.lt_or_ge g w.heap.size with hlt | hge
  · exact hlt
  · unfold At at h; rw [Array.getElem?_eq_none hge] at h; cases h
theorem At.cell {g : Nat} {cs : Array Value} {e : TypeId} {f : Nat × Nat} (h : At w g (.cells cs e f)) (i : Nat) : w.cell? ⟨g, i, none⟩ = cs[i]? := cell_of_row w g i cs e f h
theorem At.frozen {g : Nat} {cs : Array Value} {e : TypeId} (h : At w g (.cells cs e (0, 0))) (i : Nat) : w.frozen? ⟨g, i, none⟩ = false := by
  unfold At at h; simp [World.frozen?, h]
theorem At.new (w : World) (o : Obj) : At (w.alloc o) w.heap.size o := heap_alloc_new w o
theorem At.alloc {g : Nat} {o : Obj} (h : At w g o) (o' : Obj) : At (w.alloc o') g o := (heap_alloc_old w o' h.lt).trans h
theorem At.drewN {g : Nat} {o : Obj} (h : At w g o) (n : Nat) : At (w.drewN n) g o := h
theorem At.drew {g : Nat} {o : Obj} (h : At w g o) : At w.drew g o := h
theorem At.set {g : Nat} {cs : Array Value} {e : TypeId} {f : Nat × Nat} (h : At w g (.cells cs e f)) (i : Nat) (u : Value) : At (w.setCell ⟨g, i, none⟩ u) g (.cells (cs.setIfInBounds i u) e f) := by
  unfold At at h ⊢
  simp [World.setCell, Array.getElem?_modify, h]
theorem At.far {g : Nat} {o : Obj} (h : At w g o) {p : Addr} (hp : g ≠ p.block) (u : Value) : At (w.setCell p u) g o := (Below.heap_setCell w p u g hp).trans h

/-- all blocks that were there, but those of M, are as they were -/
structure Keeps (M : Nat → Prop) (w w' : World) : Prop where
  os : w'.os = w.os
  tape : w'.tape = w.tape
  output : w'.output = w.output
  size : w.heap.size ≤ w'.heap.size
  block : ∀ k, k < w.heap.size → ¬ M k → w'.heap[k]? = w.heap[k]?

def none_ : Nat → Prop := fun _ => False

theorem Keeps.refl (M : Nat → Prop) (w : World) : Keeps M w w := ⟨rfl, rfl, rfl, Nat.le_refl _, fun _ _ _ => rfl⟩
theorem Keeps.trans {M : Nat → Prop} {a b c : World} (h : Keeps M a b) (k : Keeps M b c) : Keeps M a c :=
  ⟨k.os.trans h.os, k.tape.trans h.tape, k.output.trans h.output, Nat.le_trans h.size k.size, fun i hi hn => (k.block i (Nat.lt_of_lt_of_le hi h.size) hn).trans (h.block i hi hn)⟩
theorem Keeps.mono {M M' : Nat → Prop} {a b : World} (h : Keeps M a b) (hm : ∀ k, M k → M' k) : Keeps M' a b :=
  ⟨h.os, h.tape, h.output, h.size, fun i hi hn => h.block i hi fun hm' => hn (hm i hm')⟩
/-- what is new against a may be written -/
theorem Keeps.trans_new {M M' : Nat → Prop} {a b c : World} (h : Keeps M a b) (k : Keeps M' b c) (hm : ∀ i, i < a.heap.size → M' i → M i) : Keeps M a c :=
  ⟨k.os.trans h.os, k.tape.trans h.tape, k.output.trans h.output, Nat.le_trans h.size k.size, fun i hi hn =>
    (k.block i (Nat.lt_of_lt_of_le hi h.size) fun h' => hn (hm i hi h')).trans (h.block i hi hn)⟩
theorem Keeps.alloc (M : Nat → Prop) (w : World) (o : Obj) : Keeps M w (w.alloc o) := ⟨rfl, rfl, rfl, by simp, fun k hk _ => heap_alloc_old w o hk⟩
theorem Keeps.drew (M : Nat → Prop) (w : World) : Keeps M w w.drew := ⟨rfl, rfl, rfl, Nat.le_refl _, fun _ _ _ => rfl⟩
theorem Keeps.drewN (M : Nat → Prop) (w : World) (n : Nat) : Keeps M w (w.drewN n) := ⟨rfl, rfl, rfl, Nat.le_refl _, fun _ _ _ => rfl⟩
theorem Keeps.setCell {M : Nat → Prop} (w : World) {p : Addr} (u : Value) (hp : p.block < w.heap.size → M p.block) : Keeps M w (w.setCell p u) :=
  ⟨rfl, rfl, rfl, by simp [World.setCell], fun k hk hn => Below.heap_setCell w p u k fun e => hn (by subst e; exact hp hk)⟩
theorem Keeps.grown {M : Nat → Prop} {row : Option Nat} (h : w.grownBy w' row) (hr : ∀ k, row = some k → M k) : Keeps M w w' :=
  ⟨h.os, h.tape, h.output, h.size, fun k hk hn => h.block k hk fun e => hn (hr k e.symm)⟩
theorem Keeps.below (h : Keeps none_ w w') : Below w.heap.size w w' := ⟨h.os, h.tape, h.output, h.size, fun k hk => h.block k hk (fun h => h)⟩
theorem Keeps.of_below {M : Nat → Prop} (h : Below w.heap.size w w') : Keeps M w w' := ⟨h.os, h.tape, h.output, h.size, fun k hk _ => h.block k hk⟩
theorem Keeps.at_ {M : Nat → Prop} (h : Keeps M w w') {g : Nat} {o : Obj} (hg : At w g o) (hn : ¬ M g) : At w' g o := (h.block g hg.lt hn).trans hg
theorem Keeps.cell {M : Nat → Prop} (h : Keeps M w w') {p : Addr} {v : Value} (hc : w.cell? p = some v) (hn : ¬ M p.block) : w'.cell? p = some v :=
  (World.cell?_of_block (h.block p.block (World.block_lt_of_cell? w p hc) hn)).trans hc
theorem Keeps.frozen {M : Nat → Prop} (h : Keeps M w w') {p : Addr} (hb : p.block < w.heap.size) (hn : ¬ M p.block) : w'.frozen? p = w.frozen? p := World.frozen?_of_block (h.block p.block hb hn)
theorem Keeps.owns {M : Nat → Prop} (h : Keeps M w w') {base e size n : Nat} {v : Value} {xs : List Value} (ho : w.ownsRow base e size v n xs) (hn : ∀ g, v.ownBlock = some g → ¬ M g) : w'.ownsRow base e size v n xs := by
  obtain ⟨h1, h2⟩ := ho
  refine ⟨h1, ?_⟩
  rcases h2 with h2 | ⟨g, cap, cur, hv, hb, hg, r⟩
  · exact .inl h2
  · exact .inr ⟨g, cap, cur, hv, hb, (h.at_ hg (hn g (by rw [hv]; rfl)) : At w' g _), r⟩
theorem owns_lt {base e size n : Nat} {v : Value} {xs : List Value} (ho : w.ownsRow base e size v n xs) (g : Nat) (hg : v.ownBlock = some g) : g < w.heap.size := (ho.lt g hg).2

/-- cells that a value of k cells an element reads as: nil, or at an address -/
def Row (w : World) (A : Option Addr) (xs : List Value) : Prop :=
  xs = [] ∨ ∃ b o, A = some ⟨b, o, none⟩ ∧ ∀ j u, xs[j]? = some u → w.cell? ⟨b, o + j, none⟩ = some u
theorem Row.nil (w : World) (A : Option Addr) : Row w A [] := .inl rfl
theorem Row.at_ {A : Option Addr} {xs : List Value} (h : Row w A xs) (hx : xs ≠ []) : ∃ b o, A = some ⟨b, o, none⟩ ∧ ∀ j u, xs[j]? = some u → w.cell? ⟨b, o + j, none⟩ = some u := h.resolve_left hx
/-- no cell of it lies in a block of M -/
def Apart (M : Nat → Prop) (A : Option Addr) : Prop := ∀ a, A = some a → ¬ M a.block
theorem Row.keep {M : Nat → Prop} (h : Keeps M w w') {A : Option Addr} {xs : List Value} (hr : Row w A xs) (hM : Apart M A) : Row w' A xs := by
  rcases hr with hr | ⟨b, o, rfl, hc⟩
  · exact .inl hr
  · exact .inr ⟨b, o, rfl, fun j u hu => h.cell (hc j u hu) (hM ⟨b, o, none⟩ rfl)⟩
theorem apart_none (A : Option Addr) : Apart none_ A := fun _ _ h => h
theorem Row.of_owns {base e size n c : Nat} {A : Option Addr} {xs : List Value} (ho : w.ownsRow base e size (.slice A n c) n xs) : Row w A xs := by
  by_cases hx : xs = []
  · exact .inl hx
  · rcases ho.2 with ⟨hv, h0⟩ | ⟨g, cap, cur, hv, hb, hg, hnc, hm, hs, ht⟩
    · exact .inl (List.eq_nil_of_length_eq_zero (by rw [ho.1, h0]; simp))
    · cases hv
      refine .inr ⟨g, 0, rfl, fun j u hu => ?_⟩
      have := ho.cells (g := g) rfl j u hu
      rw [Nat.zero_add]
      unfold Addr.add at this
      split at this
      · rename_i h; rw [h]; exact this
      · simpa using this

theorem foldl_fill (cs : List Value) : ∀ (k : Nat) (acc : List Value), acc.length = k + cs.length → ((cs.zipIdx k).foldl (fun (a : Array Value) (c, j) => a.setIfInBounds (0 + j) c) acc.toArray) = (acc.take k ++ cs).toArray := by
  induction cs with
  | nil => intro k acc h; simp at h ⊢; rw [← h, List.take_length]
  | cons c cs ih =>
    intro k acc h
    simp only [List.zipIdx_cons, List.foldl_cons, Nat.zero_add, List.setIfInBounds_toArray]
    have := ih (k + 1) (acc.set k c) (by simp at h ⊢; omega)
    simp only [Nat.zero_add] at this
    rw [this]
    congr 1
    simp at h
    rw [List.take_succ_eq_append_getElem (by simp; omega)]
    simp [List.take_set_of_le]

theorem X_buildSlice1 {ρ : Operand → Value} {d : Option Tmp} {ty t el : TypeId} {ps : String} {af : Array Edge} {g : Option (Nat × Bool)} {x : Operand} {z v : Value} {s b : Nat} (hu : P.underlying t = some (.slice el)) (hi : Inf P el z (s + 1) b) (hz : z.cells.size = s + 1) (hs : s < 1000) (hx : ρ x = v) (hv : v.cells.size = s + 1) :
    (execOp ρ ⟨d, .buildSlice t 1 #[(0, x)], ty, ps, af, g⟩).run P w = .ok (.value (.slice (some ⟨w.heap.size, 0, none⟩) 1 1)) (w.alloc (.cells v.cells el)) := by
  have hl : v.cells.toList.length = s + 1 := by simpa using hv
  have hf : Instr.fill (fun i => some (i * (s + 1), s + 1)) ((Array.range (s + 1)).map (z.cells[· % (s + 1)]!)) [(0, v)] = some v.cells := by
    simp only [Instr.fill]
    rw [if_neg (by simp [hv])]
    congr 1
    have h1 := foldl_fill v.cells.toList 0 ((Array.range (s + 1)).map (z.cells[· % (s + 1)]!)).toList (by simp [hv])
    simp only [Array.toArray_toList, List.take_zero, List.nil_append] at h1
    simp only [Nat.zero_mul]
    rw [← Array.foldl_toList]
    simpa using h1
  have hn : ¬ 16777216 < s + 1 := by omega
  subst hx
  simp only [execOp, Instr.buildSlice, Sem.run_bind, run_underlying hu, Result.andThen, hi.sizeOf, Nat.one_mul]
  simp only [Nat.reducePow, gt_iff_lt, hn, if_false, Nat.succ_ne_zero, hi.zero, Sem.run_bind, Result.andThen, Sem.run_pure, hz]
  simp [hf, newRow, newObj]
  rfl

theorem X_append {ρ : Operand → Value} {d : Option Tmp} {ty t e : TypeId} {ps : String} {af : Array Edge} {g : Option (Nat × Bool)} {x y : Operand} {z v : Value} {s b n m c : Nat} {xs news : List Value} {b' o' : Nat}
    (hu : P.underlying t = some (.slice e)) (hi : Inf P e z (s + 1) b) (hz : z.cells.size = s + 1) (hx : ρ x = v) (hown : w.ownsRow 0 e (s + 1) v n xs) (hy : ρ y = .slice (some ⟨b', o', none⟩) m c)
    (hl : news.length = m * (s + 1)) (hnews : ∀ j u, news[j]? = some u → w.cell? ⟨b', o' + j, none⟩ = some u) (h1 : ∀ u ∈ news, u.oneCell' = true) (hb : (n + m) * b ≤ 140737488355328) (hm : n + m ≤ 140737488355328) :
    ∃ v' w', (execOp ρ ⟨d, .call ⟨.builtin .append, #[x, y], #[t, t]⟩, ty, ps, af, g⟩).run P w = .ok (.value v') w' ∧ w'.ownsRow 0 e (s + 1) v' (n + m) (xs ++ news) ∧ w.grownBy w' v.ownBlock ∧ (v'.ownBlock = v.ownBlock ∨ v'.ownBlock = some w.heap.size) := by
  obtain ⟨i, hi1, hi2, hi3, hi4⟩ := hi.parts
  obtain ⟨v', w', hr, h2, h3, h4, h5⟩ := run_append_own_at (P := P) w 0 t ty e i z (s + 1) b hu hi1 hi2 hi3 hi4 hz (Nat.succ_pos _) v n xs hown ⟨b', o', none⟩ m c news hl (fun j u hj => by
    have : (⟨b', o', none⟩ : Addr).add j = ⟨b', o' + j, none⟩ := by
      unfold Addr.add; split
      · rename_i h; rw [h]; rfl
      · rfl
    rw [this]; exact hnews j u hj) h1 (by unfold maxLen; omega) hb (Nat.zero_le _)
  refine ⟨v', w', ?_, h2, h3, h5⟩
  subst hx
  simp [execOp, resolve, hy, invoke, builtin, hr]

/-! ### the moves of a walk, the worlds behind names -/
variable {n : Nat} {ops : Array Oper} {rest : List Oper} {Q : Exit → Fr → World → Prop} {φ : Fr} {o : Oper} {v : Value}
/-- under a guard -/
theorem RL.gop {j d : Nat} {want q : Bool} {oj : Oper} (hg : o.guard = some (j, want)) (hj : ops[j]? = some oj) (hjd : oj.dst = some d) (hv : φ d = .bool q)
    (hx : (q == want) = true → (execOp (ev φ) o).run P w = .ok (.value v) w) (hd : okd n o.dst = true) (h : RL P n ops rest Q (putF φ o.dst (gb (q == want) v)) w) : RL P n ops (o :: rest) Q φ w :=
  RL.take (Yld.guard hg hj hjd hv fun h w' hw => by cases hw; exact hx h) hd h
theorem RL.gop2 {j d : Nat} {want q q0 : Bool} {oj : Oper} (hg : o.guard = some (j, want)) (hj : ops[j]? = some oj) (hjd : oj.dst = some d) (hv : φ d = gb q0 (.bool q))
    (hx : (q0 && q == want) = true → (execOp (ev φ) o).run P w = .ok (.value v) w) (hd : okd n o.dst = true) (h : RL P n ops rest Q (putF φ o.dst (gb (q0 && q == want) v)) w) : RL P n ops (o :: rest) Q φ w :=
  RL.take (Yld.guard2 hg hj hjd hv fun h w' hw => by cases hw; exact hx h) hd h
theorem RL.opd (d : Nat) (hg : o.guard = none) (hd : o.dst = some d) (hl : Nat.blt d n = true) (hx : (execOp (ev φ) o).run P w = .ok (.value v) w) (h : RL P n ops rest Q (upd φ d v) w) : RL P n ops (o :: rest) Q φ w := RL.eff hg hx ⟨hd, hl⟩ h
theorem RL.gopd {j dj : Nat} {want q : Bool} {oj : Oper} (d : Nat) (hg : o.guard = some (j, want)) (hj : ops[j]? = some oj) (hjd : oj.dst = some dj) (hv : φ dj = .bool q)
    (hx : (q == want) = true → (execOp (ev φ) o).run P w = .ok (.value v) w) (hd : o.dst = some d) (hl : Nat.blt d n = true) (h : RL P n ops rest Q (upd φ d (gb (q == want) v)) w) : RL P n ops (o :: rest) Q φ w :=
  RL.gop hg hj hjd hv hx (by rw [hd]; exact hl) (by rw [hd]; exact h)
theorem RL.gop2d {j dj : Nat} {want q q0 : Bool} {oj : Oper} (d : Nat) (hg : o.guard = some (j, want)) (hj : ops[j]? = some oj) (hjd : oj.dst = some dj) (hv : φ dj = gb q0 (.bool q))
    (hx : (q0 && q == want) = true → (execOp (ev φ) o).run P w = .ok (.value v) w) (hd : o.dst = some d) (hl : Nat.blt d n = true) (h : RL P n ops rest Q (upd φ d (gb (q0 && q == want) v)) w) : RL P n ops (o :: rest) Q φ w :=
  RL.gop2 hg hj hjd hv hx (by rw [hd]; exact hl) (by rw [hd]; exact h)
theorem and_l {p q : Bool} (h : (p && q) = true) : p = true := by cases p; cases h; rfl
theorem gb2T {p q : Bool} (h0 : q = true) (h : p = true) : gb (q && p == true) v = v := by subst h; subst h0; rfl
theorem gb2F {p q : Bool} (h0 : q = true) (h : p = false) : gb (q && p == false) v = v := by subst h; subst h0; rfl

/-- a new variable -/
theorem RL.alloc {t : TypeId} {z : Value} {s b : Nat} (ho : o.op = .alloc t) (hg : o.guard = none) (hi : Inf P t z s b) {dd : Nat} (hd : Dst n o.dst dd)
    (h : ∀ B w', w.heap.size ≤ B → At w' B (.cells z.cells t) → Keeps none_ w w' → RL P n ops rest Q (upd φ dd (.pointer (some ⟨B, 0, none⟩))) w') : RL P n ops (o :: rest) Q φ w := by
  obtain ⟨d, op, ty, ps, af, g⟩ := o
  cases ho
  exact RL.eff hg (X_alloc hi) hd (h _ _ (Nat.le_refl _) (At.new _ _) (Keeps.alloc _ _ _))
/-- a parameter that is laid in memory -/
theorem RL.box {t : TypeId} {x : Operand} (ho : o.op = .box t x) (hg : o.guard = none) (hx : ev φ x = v) {dd : Nat} (hd : Dst n o.dst dd)
    (h : ∀ B w', w.heap.size ≤ B → At w' B (.cells v.cells t) → Keeps none_ w w' → RL P n ops rest Q (upd φ dd (.pointer (some ⟨B, 0, none⟩))) w') : RL P n ops (o :: rest) Q φ w := by
  obtain ⟨d, op, ty, ps, af, g⟩ := o
  cases ho
  exact RL.eff hg (X_box hx) hd (h _ _ (Nat.le_refl _) (At.new _ _) (Keeps.alloc _ _ _))

/-- cells from o on are these -/
def splice (cur : Array Value) (o : Nat) (vs : List Value) : Array Value := (cur.toList.take o ++ vs ++ cur.toList.drop (o + vs.length)).toArray

theorem size_splice {cur : Array Value} {o : Nat} {vs : List Value} (h : o + vs.length ≤ cur.size) : (splice cur o vs).size = cur.size := by
  simp [splice]; omega
theorem splice_all {cur : Array Value} {vs : List Value} (h : vs.length = cur.size) : splice cur 0 vs = vs.toArray := by
  unfold splice
  rw [List.take_zero, List.nil_append, List.drop_of_length_le (by simp; omega), List.append_nil]

theorem X_storeAt {ρ : Operand → Value} {d : Option Tmp} {ty t e : TypeId} {ps : String} {af : Array Edge} {gd : Option (Nat × Bool)} {x y : Operand} {z v : Value} {s b g o : Nat} {cur : Array Value}
    (hi : Inf P t z s b) (hx : ρ x = .pointer (some ⟨g, o, none⟩)) (hy : ρ y = v) (hs : v.cells.size = s) (h1 : v.cells.toList.all (·.oneCell') = true) (hg : At w g (.cells cur e)) (ho : o + s ≤ cur.size) :
    ∃ w', (execOp ρ ⟨d, .store t x y, ty, ps, af, gd⟩).run P w = .ok .skip w' ∧ At w' g (.cells (splice cur o v.cells.toList) e) ∧ Keeps (· = g) w w' := by
  have h := run_storeCells_at P g o e v.cells.toList 0 cur w hg (by simp; omega) (fun u hu => List.all_eq_true.1 h1 u hu)
  refine ⟨_, ?_, setRow_heap w g cur (splice cur o v.cells.toList) e (0, 0) hg, ⟨rfl, rfl, rfl, by simp [World.setRow], fun k _ hk => setRow_other w g k _ hk⟩⟩
  subst hy
  have hsz : (ρ y).cells.size = s := hs
  simp only [Nat.add_zero] at h
  simp [execOp, Instr.storeAt, hx, Instr.sureAddr, storeVar, hi.sizeOf, hsz, h, splice]

theorem RL.storeAt {t e : TypeId} {x y : Operand} {z : Value} {s b g p : Nat} {cur : Array Value} (ho : o.op = .store t x y) (hgd : o.guard = none) (hd : o.dst = none)
    (hi : Inf P t z s b) (hx : ev φ x = .pointer (some ⟨g, p, none⟩)) (hy : ev φ y = v) (hs : v.cells.size = s) (h1 : v.cells.toList.all (·.oneCell') = true) (hg : At w g (.cells cur e)) (hb : p + s ≤ cur.size)
    (h : ∀ w', At w' g (.cells (splice cur p v.cells.toList) e) → Keeps (· = g) w w' → RL P n ops rest Q φ w') : RL P n ops (o :: rest) Q φ w := by
  obtain ⟨d, op, ty, ps, af, gd⟩ := o
  cases ho
  obtain ⟨w', h2, h3, h4⟩ := X_storeAt (d := d) (ty := ty) (ps := ps) (af := af) (gd := gd) hi hx hy hs h1 hg hb
  exact RL.store hgd h2 hd (h w' h3 h4)

theorem RL.lit1 {t el : TypeId} {x : Operand} {z : Value} {s b : Nat} (ho : o.op = .buildSlice t 1 #[(0, x)]) (hg : o.guard = none) {dd : Nat} (hd : Dst n o.dst dd)
    (hu : P.underlying t = some (.slice el)) (hi : Inf P el z (s + 1) b) (hz : z.cells.size = s + 1) (hs : s < 1000) (hx : ev φ x = v) (hv : v.cells.size = s + 1)
    (h : ∀ B w', w.heap.size ≤ B → At w' B (.cells v.cells el) → Keeps none_ w w' → RL P n ops rest Q (upd φ dd (.slice (some ⟨B, 0, none⟩) 1 1)) w') : RL P n ops (o :: rest) Q φ w := by
  obtain ⟨d, op, ty, ps, af, g⟩ := o
  cases ho
  exact RL.eff hg (X_buildSlice1 hu hi hz hs hx hv) hd (h _ _ (Nat.le_refl _) (At.new _ _) (Keeps.alloc _ _ _))

/-- append of what lies in a row of its own to a slice that is owned -/
theorem RL.append {t e : TypeId} {x y : Operand} {z u : Value} {s b n' m c b' o' : Nat} {xs news : List Value} (ho : o.op = .call ⟨.builtin .append, #[x, y], #[t, t]⟩) (hg : o.guard = none) {dd : Nat} (hd : Dst n o.dst dd)
    (hu : P.underlying t = some (.slice e)) (hi : Inf P e z (s + 1) b) (hz : z.cells.size = s + 1) (hx : ev φ x = u) (hown : w.ownsRow 0 e (s + 1) u n' xs) (hy : ev φ y = .slice (some ⟨b', o', none⟩) m c)
    (hl : news.length = m * (s + 1)) (hnews : ∀ j u, news[j]? = some u → w.cell? ⟨b', o' + j, none⟩ = some u) (h1 : news.all (·.oneCell') = true) (hb : (n' + m) * b ≤ 140737488355328) (hm : n' + m ≤ 140737488355328)
    (h : ∀ v' w', w'.ownsRow 0 e (s + 1) v' (n' + m) (xs ++ news) → Keeps (fun k => u.ownBlock = some k) w w' → (v'.ownBlock = u.ownBlock ∨ v'.ownBlock = some w.heap.size) → RL P n ops rest Q (upd φ dd v') w') : RL P n ops (o :: rest) Q φ w := by
  obtain ⟨d, op, ty, ps, af, g⟩ := o
  cases ho
  obtain ⟨v', w', h2, h3, h4, h5⟩ := X_append (d := d) (ty := ty) (ps := ps) (af := af) (g := g) hu hi hz hx hown hy hl hnews (fun u hu => List.all_eq_true.1 h1 u hu) hb hm
  exact RL.eff hg h2 hd (h v' w' h3 (Keeps.grown h4 fun k hk => hk) h5)
theorem At.news {B : Nat} {cs : Array Value} {e : TypeId} (h : At w B (.cells cs e)) : ∀ j u, cs.toList[j]? = some u → w.cell? ⟨B, 0 + j, none⟩ = some u := fun j u hj => by
  rw [Nat.zero_add, h.cell]; simpa using hj
end
end Go.Hw
