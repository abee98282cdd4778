/- The moves of a walk through a region whose order is open: what only reads is taken first, in the worlds that keep all old memory; what does more comes up alone. -/
import Derived.Test.YtjahbhpcaenllaaHwData
import Derived.KernelRfl
namespace Go.Hw
open Go

section
variable {P : Program} {n : Nat} {Q : Exit → Fr → World → Prop} {φ : Fr} {w w0 : World} {ops : Array Oper} {o : Oper} {v : Value}

/-- all old memory is kept as long as the region runs -/
abbrev SK (w0 : World) : Array Bool → World → Prop := SU (Keeps none_ w0) []
/-- .. until operation k comes up -/
abbrev SKU (w0 : World) (k : Nat) : Array Bool → World → Prop := SU (fun _ => True) [(k, Keeps none_ w0)]

theorem RW.drawK {id : Nat} {l : List Oper} (hm : P.follows .mixedOrders = true)
    (h : ∀ w0, w0 = w.drew → Closed .any l.toArray (Array.replicate l.length false) → SK w0 (Array.replicate l.length false) w0 → RD P n l.toArray (SK w0) Q l.length (Array.replicate l.length false) φ w0) : RW P n (.region id l.toArray true) Q φ w :=
  RW.draw (SK w.drew) hm ⟨Keeps.refl _ _, by simp⟩ fun hS => h _ rfl (by simpa using (Closed.start (md := .any) (ops := l.toArray))) hS
theorem RW.drawKU {id : Nat} {l : List Oper} (k : Nat) (hm : P.follows .mixedOrders = true)
    (h : ∀ w0, w0 = w.drew → Closed .any l.toArray (Array.replicate l.length false) → SKU w0 k (Array.replicate l.length false) w0 → RD P n l.toArray (SKU w0 k) Q l.length (Array.replicate l.length false) φ w0) : RW P n (.region id l.toArray true) Q φ w :=
  RW.draw (SKU w.drew k) hm ⟨trivial, fun p hp _ => by
    obtain rfl : p = (k, Keeps none_ w.drew) := by simpa using hp
    exact Keeps.refl _ _⟩ fun hS => h _ rfl (by simpa using (Closed.start (md := .any) (ops := l.toArray))) hS

theorem SU.compat {F : World → Prop} {U : List (Nat × (World → Prop))} {l : List Nat} (h : l.all (fun i => U.all fun p => p.1 != i) = true) : ∀ i ∈ l, ∀ L w, SU F U (L.setIfInBounds i true) w ↔ SU F U L w := by
  intro i hi L w
  have h1 := List.all_eq_true.1 h i hi
  unfold SU
  refine and_congr Iff.rfl ⟨fun hh p hp hl => hh p hp ?_, fun hh p hp hl => hh p hp ?_⟩
  all_goals
    have hne : i ≠ p.1 := fun e => by
      have h2 := List.all_eq_true.1 h1 p hp
      simp [e] at h2
  · rw [getD_set_ne false hne]; exact hl
  · rw [getD_set_ne false hne] at hl; exact hl

theorem RD.takesK {N : Nat} {L : Array Bool} (hs : Region.noSelect ops = true) (l : List Nat) (fuel : Nat) (hN : N = l.length + fuel) (hB : takable ops L l = true) (hc : Closed .any ops L) (hS : SK w0 L w)
    (h : RQ P n ops (SK w0) l φ (fun φ' => Closed .any ops (listed L l) → SK w0 (listed L l) w → RD P n ops (SK w0) Q fuel (listed L l) φ' w)) : RD P n ops (SK w0) Q N L φ w := by
  subst hN
  exact RD.takes hs l fuel L φ hB (SU.compat (by simp)) hc hS h
theorem RD.takesKU {N k : Nat} {L : Array Bool} (hs : Region.noSelect ops = true) (l : List Nat) (fuel : Nat) (hN : N = l.length + fuel) (hB : takable ops L l = true) (hk : l.all (k != ·) = true) (hc : Closed .any ops L) (hS : SKU w0 k L w)
    (h : RQ P n ops (SKU w0 k) l φ (fun φ' => Closed .any ops (listed L l) → SKU w0 k (listed L l) w → RD P n ops (SKU w0 k) Q fuel (listed L l) φ' w)) : RD P n ops (SKU w0 k) Q N L φ w := by
  subst hN
  exact RD.takes hs l fuel L φ hB (SU.compat (by simpa using hk)) hc hS h

theorem until_K {i : Nat} {w' : World} (h : Until .any ops (SK w0) i w') : Keeps none_ w0 w' := let ⟨_, _, _, h⟩ := h; h.1
theorem until_KU {i k f : Nat} {w' : World} (h : Until .any ops (SKU w0 k) i w') (ha : ahead .any ops i f k = true) : Keeps none_ w0 w' := by
  obtain ⟨L, hc, hi, h⟩ := h
  exact h.2 (k, Keeps none_ w0) (by simp) (ahead_spec hc f k ha hi)

theorem Yld.K {i : Nat} (hg : o.guard = none) (h : ∀ w', Keeps none_ w0 w' → (execOp (ev φ) o).run P w' = .ok (.value v) w') : Yld P n ops (Until .any ops (SK w0) i) φ o v := Yld.plain hg fun _ hw => h _ (until_K hw)
theorem Yld.KU {i k : Nat} (f : Nat) (hg : o.guard = none) (ha : ahead .any ops i f k = true) (h : ∀ w', Keeps none_ w0 w' → (execOp (ev φ) o).run P w' = .ok (.value v) w') : Yld P n ops (Until .any ops (SKU w0 k) i) φ o v := Yld.plain hg fun _ hw => h _ (until_KU hw ha)
theorem Yld.gK {i j d : Nat} {want g : Bool} {oj : Oper} (hg : o.guard = some (j, want)) (hj : ops[j]? = some oj) (hd : oj.dst = some d) (hv : φ d = .bool g)
    (h : (g == want) = true → ∀ w', Keeps none_ w0 w' → (execOp (ev φ) o).run P w' = .ok (.value v) w') : Yld P n ops (Until .any ops (SK w0) i) φ o (gb (g == want) v) := Yld.guard hg hj hd hv fun hh _ hw => h hh _ (until_K hw)
theorem Yld.gKU {i k j d : Nat} {want g : Bool} {oj : Oper} (f : Nat) (hg : o.guard = some (j, want)) (hj : ops[j]? = some oj) (hd : oj.dst = some d) (hv : φ d = .bool g) (ha : ahead .any ops i f k = true)
    (h : (g == want) = true → ∀ w', Keeps none_ w0 w' → (execOp (ev φ) o).run P w' = .ok (.value v) w') : Yld P n ops (Until .any ops (SKU w0 k) i) φ o (gb (g == want) v) := Yld.guard hg hj hd hv fun hh _ hw => h hh _ (until_KU hw ha)
theorem Yld.g2K {i j d : Nat} {want g g0 : Bool} {oj : Oper} (hg : o.guard = some (j, want)) (hj : ops[j]? = some oj) (hd : oj.dst = some d) (hv : φ d = gb g0 (.bool g))
    (h : (g0 && g == want) = true → ∀ w', Keeps none_ w0 w' → (execOp (ev φ) o).run P w' = .ok (.value v) w') : Yld P n ops (Until .any ops (SK w0) i) φ o (gb (g0 && g == want) v) := Yld.guard2 hg hj hd hv fun hh _ hw => h hh _ (until_K hw)
theorem Yld.g2KU {i k j d : Nat} {want g g0 : Bool} {oj : Oper} (f : Nat) (hg : o.guard = some (j, want)) (hj : ops[j]? = some oj) (hd : oj.dst = some d) (hv : φ d = gb g0 (.bool g)) (ha : ahead .any ops i f k = true)
    (h : (g0 && g == want) = true → ∀ w', Keeps none_ w0 w' → (execOp (ev φ) o).run P w' = .ok (.value v) w') : Yld P n ops (Until .any ops (SKU w0 k) i) φ o (gb (g0 && g == want) v) := Yld.guard2 hg hj hd hv fun hh _ hw => h hh _ (until_KU hw ha)

theorem SK.next {L : Array Bool} {i : Nat} {w' : World} (hS : SK w0 L w) (h : Keeps none_ w w') : SK w0 (L.setIfInBounds i true) w' := ⟨hS.1.trans h, by simp⟩
theorem SKU.next {L : Array Bool} {i k : Nat} {w' : World} (hne : (i == k) = false) (hS : SKU w0 k L w) (h : Keeps none_ w w') : SKU w0 k (L.setIfInBounds i true) w' :=
  ⟨trivial, fun p hp hl => by
    obtain rfl : p = (k, Keeps none_ w0) := by simpa using hp
    have hne' : i ≠ k := by simpa using hne
    have hl' : L.getD k false = false := by
      have : (L.setIfInBounds i true).getD k false = false := hl
      rwa [getD_set_ne false hne'] at this
    exact (hS.2 _ hp hl').trans h⟩
theorem SKU.now {L : Array Bool} {k : Nat} {w' : World} (hc : Closed .any ops L) (hk : Nat.blt k ops.size = true) : SKU w0 k (L.setIfInBounds k true) w' :=
  ⟨trivial, fun p hp hl => by
    obtain rfl : p = (k, Keeps none_ w0) := by simpa using hp
    exfalso
    have hlt : k < L.size := by rw [hc.1]; exact Nat.blt_eq.mp hk
    have : (L.setIfInBounds k true).getD k false = false := hl
    simp [hlt] at this⟩
theorem SKU.past {L : Array Bool} {i k : Nat} {w' : World} (hne : (i == k) = false) (hL : L.getD k false = true) : SKU w0 k (L.setIfInBounds i true) w' :=
  ⟨trivial, fun p hp hl => by
    obtain rfl : p = (k, Keeps none_ w0) := by simpa using hp
    exfalso
    have hne' : i ≠ k := by simpa using hne
    have : (L.setIfInBounds i true).getD k false = false := hl
    rw [getD_set_ne false hne', hL] at this
    cases this⟩

section
variable {S : Array Bool → World → Prop} {N fuel i : Nat} {L : Array Bool}

theorem RD.alloc {t : TypeId} {z : Value} {s b : Nat} (hr : (Region.ready .any ops L).contains i = true) (hc : Closed .any ops L) (hi : ops[i]? = some o) (ho : o.op = .alloc t) (hg : o.guard = none) (hI : Inf P t z s b) {dd : Nat} (hd : Dst n o.dst dd)
    (hS' : ∀ w', Keeps none_ w w' → S (L.setIfInBounds i true) w')
    (h : ∀ B w', w.heap.size ≤ B → At w' B (.cells z.cells t) → Keeps none_ w w' → Closed .any ops (L.setIfInBounds i true) → S (L.setIfInBounds i true) w' → RD P n ops S Q fuel (L.setIfInBounds i true) (upd φ dd (.pointer (some ⟨B, 0, none⟩))) w') : RS P n ops S Q fuel L φ w i := by
  have hx : ∀ o : Oper, o.op = .alloc t → (execOp (ev φ) o).run P w = .ok (.value (.pointer (some ⟨w.heap.size, 0, none⟩))) (w.alloc (.cells z.cells t)) := fun o ho => by
    obtain ⟨d, op, ty, ps, af, g⟩ := o
    cases ho
    exact X_alloc hI
  have hK := Keeps.alloc none_ w (.cells z.cells t)
  exact RS.eff hr hc hi hg (hx o ho) hd (hS' _ hK) fun hcl => h _ _ (Nat.le_refl _) (At.new _ _) hK hcl (hS' _ hK)
theorem RD.lit1 {t el : TypeId} {x : Operand} {z : Value} {s b : Nat} (hr : (Region.ready .any ops L).contains i = true) (hc : Closed .any ops L) (hi : ops[i]? = some o) (ho : o.op = .buildSlice t 1 #[(0, x)]) (hg : o.guard = none) {dd : Nat} (hd : Dst n o.dst dd)
    (hu : P.underlying t = some (.slice el)) (hI : Inf P el z (s + 1) b) (hz : z.cells.size = s + 1) (hs : s < 1000) (hx : ev φ x = v) (hv : v.cells.size = s + 1)
    (hS' : ∀ w', Keeps none_ w w' → S (L.setIfInBounds i true) w')
    (h : ∀ B w', w.heap.size ≤ B → At w' B (.cells v.cells el) → Keeps none_ w w' → Closed .any ops (L.setIfInBounds i true) → S (L.setIfInBounds i true) w' → RD P n ops S Q fuel (L.setIfInBounds i true) (upd φ dd (.slice (some ⟨B, 0, none⟩) 1 1)) w') : RS P n ops S Q fuel L φ w i := by
  have hx' : ∀ o : Oper, o.op = .buildSlice t 1 #[(0, x)] → (execOp (ev φ) o).run P w = .ok (.value (.slice (some ⟨w.heap.size, 0, none⟩) 1 1)) (w.alloc (.cells v.cells el)) := fun o ho => by
    obtain ⟨d, op, ty, ps, af, g⟩ := o
    cases ho
    exact X_buildSlice1 hu hI hz hs hx hv
  have hK := Keeps.alloc none_ w (.cells v.cells el)
  exact RS.eff hr hc hi hg (hx' o ho) hd (hS' _ hK) fun hcl => h _ _ (Nat.le_refl _) (At.new _ _) hK hcl (hS' _ hK)
theorem RD.storeAt {t e : TypeId} {x y : Operand} {z : Value} {s b g p : Nat} {cur : Array Value} (hr : (Region.ready .any ops L).contains i = true) (hc : Closed .any ops L) (hi : ops[i]? = some o) (ho : o.op = .store t x y) (hgd : o.guard = none) (hd : o.dst = none)
    (hI : Inf P t z s b) (hx : ev φ x = .pointer (some ⟨g, p, none⟩)) (hy : ev φ y = v) (hs : v.cells.size = s) (h1 : v.cells.toList.all (·.oneCell') = true) (hg : At w g (.cells cur e)) (hb : p + s ≤ cur.size)
    (hS' : ∀ w', At w' g (.cells (splice cur p v.cells.toList) e) → Keeps (· = g) w w' → S (L.setIfInBounds i true) w')
    (h : ∀ w', At w' g (.cells (splice cur p v.cells.toList) e) → Keeps (· = g) w w' → Closed .any ops (L.setIfInBounds i true) → S (L.setIfInBounds i true) w' → RD P n ops S Q fuel (L.setIfInBounds i true) φ w') : RS P n ops S Q fuel L φ w i := by
  obtain ⟨d, op, ty, ps, af, gd⟩ := o
  cases ho
  obtain ⟨w', h2, h3, h4⟩ := X_storeAt (d := d) (ty := ty) (ps := ps) (af := af) (gd := gd) hI hx hy hs h1 hg hb
  exact RS.store hr hc hi hgd h2 hd (hS' _ h3 h4) fun hcl => h _ h3 h4 hcl (hS' _ h3 h4)
theorem RD.append {t e : TypeId} {x y : Operand} {z u : Value} {s b n' m c b' o' : Nat} {xs news : List Value} (hr : (Region.ready .any ops L).contains i = true) (hc : Closed .any ops L) (hi : ops[i]? = some o) (ho : o.op = .call ⟨.builtin .append, #[x, y], #[t, t]⟩) (hg : o.guard = none) {dd : Nat} (hd : Dst n o.dst dd)
    (hu : P.underlying t = some (.slice e)) (hI : Inf P e z (s + 1) b) (hz : z.cells.size = s + 1) (hx : ev φ x = u) (hown : w.ownsRow 0 e (s + 1) u n' xs) (hy : ev φ y = .slice (some ⟨b', o', none⟩) m c)
    (hl : news.length = m * (s + 1)) (hnews : ∀ j u, news[j]? = some u → w.cell? ⟨b', o' + j, none⟩ = some u) (h1 : news.all (·.oneCell') = true) (hb : (n' + m) * b ≤ 140737488355328) (hm : n' + m ≤ 140737488355328)
    (hS' : ∀ w', Keeps (fun k => u.ownBlock = some k) w w' → S (L.setIfInBounds i true) w')
    (h : ∀ v' w', w'.ownsRow 0 e (s + 1) v' (n' + m) (xs ++ news) → Keeps (fun k => u.ownBlock = some k) w w' → (v'.ownBlock = u.ownBlock ∨ v'.ownBlock = some w.heap.size) → Closed .any ops (L.setIfInBounds i true) → S (L.setIfInBounds i true) w' → RD P n ops S Q fuel (L.setIfInBounds i true) (upd φ dd v') w') : RS P n ops S Q fuel L φ w i := by
  obtain ⟨d, op, ty, ps, af, g⟩ := o
  cases ho
  obtain ⟨v', w', h2, h3, h4, h5⟩ := X_append (d := d) (ty := ty) (ps := ps) (af := af) (g := g) hu hI hz hx hown hy hl hnews (fun u hu => List.all_eq_true.1 h1 u hu) hb hm
  have hK := Keeps.grown (M := fun k => u.ownBlock = some k) h4 fun k hk => hk
  exact RS.eff hr hc hi hg h2 hd (hS' _ hK) fun hcl => h v' w' h3 hK h5 hcl (hS' _ hK)
theorem RD.calls {f : FuncId} {args : Array Value} {R : Ending → World → Prop} (hr : (Region.ready .any ops L).contains i = true) (hc : Closed .any ops L) (hi : ops[i]? = some o) (hg : o.guard = none)
    (hx : (execOp (ev φ) o).run P w = .ok (.enter f args) w) {dd : Nat} (hd : Dst n o.dst dd) (hC : Calls P f args w R)
    (h : ∀ e w', R e w' → ∃ v, e = .returned v ∧ S (L.setIfInBounds i true) w' ∧ (Closed .any ops (L.setIfInBounds i true) → S (L.setIfInBounds i true) w' → RD P n ops S Q fuel (L.setIfInBounds i true) (upd φ dd v) w')) : RS P n ops S Q fuel L φ w i := by
  exact RS.call hr hc hi hg hx hd hC fun hcl e w' hR => let ⟨v, he, hs, hh⟩ := h e w' hR; ⟨v, he, hs, hh hcl hs⟩
end

end
end Go.Hw
