/- The moves of a walk over the list of pieces: plain operations, guarded calls, loops by a model's rounds, results. -/
import Derived.Test.YtjahbhpcaenllaaHwSep2
namespace Go.Hw
open Go

theorem no_out {α : Type} {y : α} (h : (none : Option α) = some y) : False := by cases h
/-- under a guard, or a value that nobody asks for -/
def gI {α : Type} (g : Bool) (m : Option α) (d : α) : Option α := bif g then m else some d
theorem gI_out {α : Type} {g : Bool} {m : Option α} {d x : α} (h : gI g m d = some x) (hg : g = true) : m = some x := by subst hg; exact h
theorem gC_out {p : Prop} {g : Bool} (h : g = true → p) (hg : g = true) : p := h hg

/-- a slice that is nil has nothing -/
theorem SL.none_nil {α : Type} {w : World} {A : Option Addr} {c s : Nat} {l : List α} {E : α → List Value} (hE : Enc E s) (h : SL w A c l E) (hA : A.isNone = true) : l = [] := by
  by_cases hl : l = []
  · exact hl
  · obtain ⟨b, o, e⟩ := h.spot hE hl
    rw [e] at hA; cases hA
theorem ac2 {φ : Fr} {l : List Operand} {vs : List Value} (h : l.map (ev φ) = vs) : (l.map (ev φ) ++ ([] : List Value)).toArray = vs.toArray := by rw [h, List.append_nil]
def shrI (k : IntKind) (a e : Int) : Int := a.fdiv (2 ^ min e.toNat k.bits)
section
variable {P : Program} {w : World} {ρ : Operand → Value} {d : Option Tmp} {ty t t' : TypeId} {ps : String} {af : Array Edge} {g : Option (Nat × Bool)} {x y : Operand} {A : Option Addr} {n c : Nat}
theorem X_nilS {e : TypeId} (hx : ρ x = .slice A n c) (hy : ρ y = .slice none 0 0) (hu : P.underlying t = some (.slice e)) : (execOp ρ ⟨d, .binOp .eql t x y t', ty, ps, af, g⟩).run P w = .ok (.value (.bool A.isNone)) w := by
  have h0 : ∀ m, (Op.equalIn (m + 1) t (.slice A n c) (.slice none 0 0)).run P w = .ok A.isNone w := fun m => by
    cases A <;> simp [Op.equalIn, run_underlying hu]
  have h1 : (Op.equalIn 10000 t (.slice A n c) (.slice none 0 0)).run P w = .ok A.isNone w := h0 9999
  refine X_bin hx hy ?_ ?_
  · simp [eqGuard]
  · simp only [binOp]
    simp [Op.equal, Op.maxDepth, h1]
end
section
variable {P : Program} {n : Nat} {Q : Exit → Fr → World → Prop} {φ : Fr} {w : World} {ops : Array Oper} {rest : List Oper} {op : Op} {ty : TypeId} {ps : String} {af : Array Edge} {d : Tmp} {v : Value} {o : Oper}

theorem q (hl : Nat.blt d n = true) (hx : (execOp (ev φ) ⟨some d, op, ty, ps, af, none⟩).run P w = .ok (.value v) w) (h : RL P n ops rest Q (upd φ d v) w) : RL P n ops (⟨some d, op, ty, ps, af, none⟩ :: rest) Q φ w := RL.opd d rfl rfl hl hx h

/-- a call under a guard, of a function that leaves all old memory -/
theorem RL.gcallp {j dj : Nat} {want g : Bool} {oj : Oper} {f : FuncId} {args : Array Value} {Rv : Value → World → Prop} (hg : o.guard = some (j, want)) (hj : ops[j]? = some oj) (hjd : oj.dst = some dj) (hv : φ dj = .bool g) {dd : Nat} (hd : Dst n o.dst dd)
    (hx : (g == want) = true → (execOp (ev φ) o).run P w = .ok (.enter f args) w) (hC : (g == want) = true → Calls P f args w fun e w' => ∃ v, e = .returned v ∧ Rv v w' ∧ Keeps none_ w w')
    (h : ∀ v w', ((g == want) = true → Rv v w') → Keeps none_ w w' → RL P n ops rest Q (upd φ dd (gb (g == want) v)) w') : RL P n ops (o :: rest) Q φ w := fun a ha => by
  refine wpList_step fun K hK => ?_
  have hw : Region.wanted o (yielded ops a.tmps) = (g == want) := by
    simp only [Region.wanted, hg, yielded_frOf hj hjd, ha.val, hv]
    cases g <;> cases want <;> rfl
  cases hgw : (g == want) with
  | true =>
    rw [if_pos (by rw [hw, hgw])]
    unfold Oper.wp
    rw [ha.eval, hx hgw]
    refine (hC hgw).mono fun e w' ⟨v, he, hr, hk⟩ => ?_
    subst he
    have h1 := h v w' (fun _ => hr) hk
    rw [hgw] at h1
    exact hK _ _ (h1 _ (by have h0 := ha.put (d := some dd) hd.lt v; rw [hd.eq]; exact h0))
  | false =>
    rw [if_neg (by rw [hw, hgw]; decide)]
    have h1 := h undef w (fun e => by rw [hgw] at e; cases e) (Keeps.refl _ _)
    rw [hgw] at h1
    exact hK _ _ (h1 _ (by have h0 := ha.put (d := some dd) hd.lt undef; rw [hd.eq]; exact h0))

theorem RS.gcallp {S : Array Bool → World → Prop} {fuel i j dj : Nat} {want g : Bool} {oj : Oper} {L : Array Bool} {f : FuncId} {args : Array Value} {Rv : Value → World → Prop} (hr : (Region.ready .any ops L).contains i = true) (hc : Closed .any ops L) (hi : ops[i]? = some o)
    (hg : o.guard = some (j, want)) (hj : ops[j]? = some oj) (hjd : oj.dst = some dj) (hv : φ dj = .bool g) {dd : Nat} (hd : Dst n o.dst dd)
    (hx : (g == want) = true → (execOp (ev φ) o).run P w = .ok (.enter f args) w) (hC : (g == want) = true → Calls P f args w fun e w' => ∃ v, e = .returned v ∧ Rv v w' ∧ Keeps none_ w w')
    (h : ∀ v w', ((g == want) = true → Rv v w') → Keeps none_ w w' → S (L.setIfInBounds i true) w' ∧ (Closed .any ops (L.setIfInBounds i true) → S (L.setIfInBounds i true) w' → RD P n ops S Q fuel (L.setIfInBounds i true) (upd φ dd (gb (g == want) v)) w')) : RS P n ops S Q fuel L φ w i :=
  RS.gcall hr hc hi hg hj hjd hv hd
    (fun hgw => by
      obtain ⟨h1, h2⟩ := h undef w (fun e => by rw [hgw] at e; cases e) (Keeps.refl _ _)
      rw [hgw] at h2
      exact ⟨h1, fun hcl => h2 hcl h1⟩) hx hC
    (fun hgw hcl e w' ⟨v, he, hr', hk⟩ => by
      obtain ⟨h1, h2⟩ := h v w' (fun _ => hr') hk
      rw [hgw] at h2
      exact ⟨v, he, h1, h2 hcl h1⟩)

theorem RL.exn {R : Value → World → Prop} (hg : o.guard = none) (hx : EX P φ o w R) (hd : o.dst = none) (h : ∀ v w', R v w' → RL P n ops rest Q φ w') : RL P n ops (o :: rest) Q φ w := fun a ha => by
  obtain ⟨v, w', h1, h2⟩ := hx
  refine wpList_plain hg fun K hK => ?_
  unfold Oper.wp
  rw [ha.eval, h1]
  refine hK _ _ (h v w' h2 _ ?_)
  rw [hd]; exact ha
theorem RS.exn {R : Value → World → Prop} {S : Array Bool → World → Prop} {fuel i : Nat} {L : Array Bool} (hr : (Region.ready .any ops L).contains i = true) (hc : Closed .any ops L) (hi : ops[i]? = some o) (hg : o.guard = none) (hx : EX P φ o w R) (hd : o.dst = none)
    (h : ∀ v w', R v w' → S (L.setIfInBounds i true) w' ∧ (Closed .any ops (L.setIfInBounds i true) → S (L.setIfInBounds i true) w' → RD P n ops S Q fuel (L.setIfInBounds i true) φ w')) : RS P n ops S Q fuel L φ w i := fun a ha => by
  have hcl := hc.step (j := i) (by simpa using hr)
  obtain ⟨v, w', h1, h2⟩ := hx
  obtain ⟨h3, h4⟩ := h v w' h2
  unfold wpOp
  simp only [hi, Region.wanted, hg, if_true]
  refine .inl ?_
  unfold Oper.wp
  rw [ha.eval, h1]
  refine ⟨h3, (h4 hcl h3).2.2 _ ?_⟩
  rw [hd]; exact ha

/-! ### results -/
variable {fn : Func} {R : Ending → World → Prop}
/-- what a result's place holds -/
def RV (P : Program) (φ : Fr) (w : World) : ResultVar → Value → Prop
  | .tmp t, v => φ t = v
  | .cell a t, v => ∃ p, φ a = .pointer (some p) ∧ (loadVar t p).run P w = .ok v w
def rvSem (tmps : Array Value) : ResultVar → Sem Value
  | .tmp t => pure (tmps.getD t undef)
  | .cell a t => do loadVar t (← asAddr (tmps.getD a undef))
theorem results_eq (tmps : Array Value) : results fn tmps = (do
  let vs ← fn.results.mapM (rvSem tmps)
  pure (if h : vs.size = 1 then vs[0] else .tuple vs)) := rfl
theorem RV.run {r : ResultVar} {v : Value} {tmps : Array Value} (h : RV P (frOf tmps) w r v) : (rvSem tmps r).run P w = .ok v w := by
  cases r with
  | tmp t => have h' : tmps.getD t undef = v := h; simp only [rvSem, h', Sem.run_pure]
  | cell a t =>
    obtain ⟨p, h1, h2⟩ := h
    have h1' : tmps.getD a undef = .pointer (some p) := h1
    simp only [rvSem, h1', asAddr]
    exact h2
theorem retV1 {e : Exit} {r : ResultVar} {v : Value} (he : e = .ret ∨ e = .normal) (hr : fn.results = #[r]) (hv : RV P φ w r v) (h : R (.returned v) w) : bodyQ P fn R e φ w :=
  .mk he v (fun tmps e => by
    subst e
    rw [results_eq, hr]
    simp [hv.run]) h
theorem retV2 {e : Exit} {r r2 : ResultVar} {v v2 : Value} (he : e = .ret ∨ e = .normal) (hr : fn.results = #[r, r2]) (hv : RV P φ w r v) (hv2 : RV P φ w r2 v2) (h : R (.returned (.tuple #[v, v2])) w) : bodyQ P fn R e φ w :=
  .mk he _ (fun tmps e => by
    subst e
    rw [results_eq, hr]
    simp [hv.run, hv2.run]) h
theorem retV3 {e : Exit} {r r2 r3 : ResultVar} {v v2 v3 : Value} (he : e = .ret ∨ e = .normal) (hr : fn.results = #[r, r2, r3]) (hv : RV P φ w r v) (hv2 : RV P φ w r2 v2) (hv3 : RV P φ w r3 v3) (h : R (.returned (.tuple #[v, v2, v3])) w) : bodyQ P fn R e φ w :=
  .mk he _ (fun tmps e => by
    subst e
    rw [results_eq, hr]
    simp [hv.run, hv2.run, hv3.run]) h
theorem RV.agg {F : Nat → Prop} {w0 : World} {l : List Ck} {a : Tmp} {t : TypeId} {td : TypeDesc} {B : Nat} {zv : Value} {b : Nat} {e : TypeId} (hM : SH F w0 w l) (i : Nat) (cs : List Value) (hi : nth l i = some (.blk B cs e)) (hφ : φ a = .pointer (some ⟨B, 0, none⟩)) (hu : P.underlying t = some td) (hd : aggB td = true) (hI : Inf P t zv cs.length b) : RV P φ w (.cell a t) (.agg cs.toArray) := by
  refine ⟨_, hφ, ?_⟩
  have h1 := run_isAgg (P := P) (t := t) hu w
  rw [hd] at h1
  have h2 : (loadCells ⟨B, 0, none⟩ cs.length).run P w = .ok cs.toArray w := run_loadCells_list w _ cs fun j u hj => by
    have : (⟨B, 0, none⟩ : Addr).add j = ⟨B, j, none⟩ := by
      unfold Addr.add; split
      · rename_i h; rw [h]
      · simp
    rw [this]; exact hM.cell i hi hj
  simp [loadVar, h1, hI.sizeOf, h2]
theorem RV.cell1 {F : Nat → Prop} {w0 : World} {l : List Ck} {a : Tmp} {t : TypeId} {td : TypeDesc} {B : Nat} {e : TypeId} (hM : SH F w0 w l) (i : Nat) (cs : List Value) (hi : nth l i = some (.blk B cs e)) (hφ : φ a = .pointer (some ⟨B, 0, none⟩)) (hu : P.underlying t = some td) (hd : aggB td = false) (hv : cs[0]? = some v) : RV P φ w (.cell a t) v := by
  refine ⟨_, hφ, ?_⟩
  have h1 := run_isAgg (P := P) (t := t) hu w
  rw [hd] at h1
  simp [loadVar, h1, hM.cell i hi hv]
end
end Go.Hw
