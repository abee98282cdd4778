/- Frames as functions of their slots; what a piece of code is to show, over such frames; regions in the text's order, and regions whose order is open. Plain theorems over the library's own 'Code.wp'. -/
import Derived.Test.YtjahbhpcaenllaaHwOrders
import Derived.Deep.LoopGhost
import Derived.Laws.World
import Derived.Deep.Draws
namespace Go.Hw
open Go

abbrev Fr := Nat → Value
def upd (φ : Fr) (d : Nat) (v : Value) : Fr := fun t => bif Nat.beq t d then v else φ t
def putF (φ : Fr) : Option Tmp → Value → Fr
  | some d, v => upd φ d v
  | none, _ => φ
def frOf (tmps : Array Value) : Fr := fun t => tmps.getD t undef
def ev (φ : Fr) : Operand → Value
  | .tmp t => φ t
  | .const v => v
  | .global g => .pointer (some ⟨g, 0, none⟩)
  | .func f => .func (.func f) #[] #[]
def okd (n : Nat) : Option Tmp → Bool
  | some d => Nat.blt d n
  | none => true

theorem upd_same (φ : Fr) (d : Nat) (v : Value) : upd φ d v d = v := by simp [upd]
theorem upd_ne (φ : Fr) {d t : Nat} (v : Value) (h : t ≠ d) : upd φ d v t = φ t := by
  have : Nat.beq t d = false := by
    cases hb : Nat.beq t d with
    | false => rfl
    | true => exact absurd (Nat.eq_of_beq_eq_true hb) h
  simp [upd, this]
theorem upd_self (φ : Fr) (d : Nat) : upd φ d (φ d) = φ := by
  funext t
  by_cases h : t = d
  · subst h; exact upd_same _ _ _
  · exact upd_ne _ _ h

structure Ag (n : Nat) (φ : Fr) (a : Act) : Prop where
  size : a.tmps.size = n
  dfr : a.defers = []
  val : frOf a.tmps = φ

theorem Ag.eval {n : Nat} {φ : Fr} {a : Act} (h : Ag n φ a) : a.eval = ev φ := by
  funext x
  cases x with
  | tmp t => exact congrFun h.val t
  | const v => rfl
  | global g => rfl
  | func f => rfl

theorem Ag.put {n : Nat} {φ : Fr} {a : Act} (h : Ag n φ a) {d : Option Tmp} (hd : okd n d = true) (v : Value) : Ag n (putF φ d v) (a.put d v) := by
  cases d with
  | none => exact h
  | some d =>
    refine ⟨by simp [Act.put, h.size], h.dfr, ?_⟩
    have hlt : d < a.tmps.size := by rw [h.size]; exact Nat.blt_eq.mp hd
    funext t
    show (a.tmps.setIfInBounds d v).getD t undef = upd φ d v t
    by_cases e : t = d
    · subst e
      rw [upd_same]
      simp [hlt]
    · rw [upd_ne _ _ e, ← h.val]
      simp [frOf, Array.getElem?_setIfInBounds_ne (Ne.symm e)]

/-- what stands behind, over the frame's function; no panic -/
def lift (n : Nat) (Q : Exit → Fr → World → Prop) : Exit → Act → World → Prop
  | .panic _, _, _ => False
  | .outgrown, _, _ => False
  | e, a, w => ∃ φ, Ag n φ a ∧ Q e φ w

def RW (P : Program) (n : Nat) (c : Code) (Q : Exit → Fr → World → Prop) (φ : Fr) (w : World) : Prop := ∀ a, Ag n φ a → c.wp P (lift n Q) a w

/-- what follows in a sequence -/
def thenQ (K : Fr → World → Prop) (Q : Exit → Fr → World → Prop) : Exit → Fr → World → Prop
  | .normal, φ, w => K φ w
  | e, φ, w => Q e φ w
def blockQ (id : Nat) (Q : Exit → Fr → World → Prop) : Exit → Fr → World → Prop
  | .exit id', φ, w => if id' = id then Q .normal φ w else Q (.exit id') φ w
  | e, φ, w => Q e φ w

section
variable {P : Program} {n : Nat} {Q : Exit → Fr → World → Prop} {φ : Fr} {w : World}

theorem RW.mono {c : Code} {Q' : Exit → Fr → World → Prop} (h : RW P n c Q φ w) (hq : ∀ e φ w, Q e φ w → Q' e φ w) : RW P n c Q' φ w := fun a ha =>
  wp_mono (h a ha) fun e a w h => by
    cases e with
    | panic c => exact h
    | outgrown => exact h
    | _ => exact let ⟨φ, h1, h2⟩ := h; ⟨φ, h1, hq _ _ _ h2⟩

theorem RW.seq {x y : Code} (h : RW P n x (thenQ (fun φ w => RW P n y Q φ w) Q) φ w) : RW P n (.seq x y) Q φ w := fun a ha =>
  wp_seq (wp_mono (h a ha) fun e a w h => by
    cases e with
    | normal => exact let ⟨φ, h1, h2⟩ := h; h2 a h1
    | _ => exact h)

theorem RW.cond {c : Operand} {x y : Code} {t : Bool} (hc : ev φ c = .bool t) (h1 : t = true → RW P n x Q φ w) (h2 : t = false → RW P n y Q φ w) : RW P n (.cond c x y) Q φ w := fun a ha =>
  wp_cond_split (t := t) (by rw [ha.eval]; exact hc) (fun ht => h1 ht a ha) (fun ht => h2 ht a ha)
theorem RW.cond_true {c : Operand} {x y : Code} (hc : ev φ c = .bool true) (h : RW P n x Q φ w) : RW P n (.cond c x y) Q φ w := RW.cond hc (fun _ => h) (fun h => by cases h)
theorem RW.cond_false {c : Operand} {x y : Code} (hc : ev φ c = .bool false) (h : RW P n y Q φ w) : RW P n (.cond c x y) Q φ w := RW.cond hc (fun h => by cases h) (fun _ => h)

theorem RW.block {id : Nat} {c : Code} (h : RW P n c (blockQ id Q) φ w) : RW P n (.block id c) Q φ w := fun a ha =>
  wp_block (wp_mono (h a ha) fun e a w h => by
    cases e with
    | exit id' =>
      obtain ⟨φ, h1, h2⟩ := h
      show if id' = id then _ else _
      have h2' : if id' = id then Q .normal φ w else Q (.exit id') φ w := h2
      split
      · rename_i e; rw [if_pos e] at h2'; exact ⟨φ, h1, h2'⟩
      · rename_i e; rw [if_neg e] at h2'; exact ⟨φ, h1, h2'⟩
    | _ => exact h)

theorem RW.skip (h : Q .normal φ w) : RW P n .skip Q φ w := fun _ ha => wp_skip ⟨φ, ha, h⟩
theorem RW.ret (h : Q .ret φ w) : RW P n .ret Q φ w := fun _ ha => wp_ret ⟨φ, ha, h⟩
theorem RW.exit {id : Nat} (h : Q (.exit id) φ w) : RW P n (.exit id) Q φ w := fun _ ha => wp_exit ⟨φ, ha, h⟩
theorem RW.label {l : Nat} (h : Q .normal φ w) : RW P n (.label l) Q φ w := fun _ ha => wp_label ⟨φ, ha, h⟩

/-- what stands between two pieces of code -/
theorem RW.cut {x y : Code} (I : Fr → World → Prop) (h1 : RW P n x (thenQ I Q) φ w) (h2 : ∀ φ w, I φ w → RW P n y Q φ w) : RW P n (.seq x y) Q φ w := RW.seq (h1.mono fun e φ w h => by
  cases e with
  | normal => exact h2 φ w h
  | _ => exact h)

/-- a loop: a relation that bears a number, which each round lowers -/
theorem RW.loop {c : Code} (I : Nat → Fr → World → Prop) (k : Nat) (h0 : I k φ w)
    (round : ∀ k φ w, I k φ w → RW P n c (thenQ (fun φ' w' => ∃ k', k' < k ∧ I k' φ' w') Q) φ w) : RW P n (.loop c) Q φ w := fun a ha =>
  wp_loop_ghost (fun k a w => ∃ φ, Ag n φ a ∧ I k φ w) k ⟨φ, ha, h0⟩ fun k a w ⟨φ, h1, h2⟩ =>
    wp_mono (round k φ w h2 a h1) fun e a w h => by
      cases e with
      | normal => exact let ⟨φ, h1, k', hk, h2⟩ := h; ⟨k', hk, φ, h1, h2⟩
      | _ => exact h

/-! ### one operation -/

/-- in every world of the class the operation leaves this value, and nothing else -/
def Yld (P : Program) (n : Nat) (ops : Array Oper) (C : World → Prop) (φ : Fr) (o : Oper) (v : Value) : Prop := ∀ a, Ag n φ a → YieldsIf P ops C o v a

variable {ops : Array Oper} {C : World → Prop} {o : Oper} {v : Value}

theorem Yld.plain (hg : o.guard = none) (h : ∀ w, C w → (execOp (ev φ) o).run P w = .ok (.value v) w) : Yld P n ops C φ o v := fun a ha =>
  .inl ⟨by simp [Region.wanted, hg], by rw [ha.eval]; exact h⟩

/-- a value that is there only if ..; else nothing is -/
def gb (g : Bool) (v : Value) : Value := bif g then v else undef

theorem yielded_frOf {a : Act} {j d : Nat} {oj : Oper} (hj : ops[j]? = some oj) (hd : oj.dst = some d) : yielded ops a.tmps j = (match frOf a.tmps d with | .bool b => some b | _ => none) := by
  unfold yielded frOf
  rw [hj]
  simp only [Option.bind_some, hd, Array.getD_eq_getD_getElem?]
  cases a.tmps[d]? with
  | none => rfl
  | some v => cases v <;> rfl

/-- an operation under a guard -/
theorem Yld.guard {j d : Nat} {want g : Bool} {oj : Oper} (hg : o.guard = some (j, want)) (hj : ops[j]? = some oj) (hd : oj.dst = some d) (hv : φ d = .bool g)
    (h : (g == want) = true → ∀ w, C w → (execOp (ev φ) o).run P w = .ok (.value v) w) : Yld P n ops C φ o (gb (g == want) v) := fun a ha => by
  have hw : Region.wanted o (yielded ops a.tmps) = (g == want) := by
    simp only [Region.wanted, hg, yielded_frOf hj hd, ha.val, hv]
    cases g <;> cases want <;> rfl
  cases hgw : (g == want) with
  | true => exact .inl ⟨by rw [hw, hgw], by rw [ha.eval]; exact h hgw⟩
  | false => exact .inr ⟨by rw [hw, hgw], rfl⟩
/-- an operation under a guard that is itself under a guard -/
theorem Yld.guard2 {j d : Nat} {want g g0 : Bool} {oj : Oper} (hg : o.guard = some (j, want)) (hj : ops[j]? = some oj) (hd : oj.dst = some d) (hv : φ d = gb g0 (.bool g))
    (h : (g0 && g == want) = true → ∀ w, C w → (execOp (ev φ) o).run P w = .ok (.value v) w) : Yld P n ops C φ o (gb (g0 && g == want) v) := fun a ha => by
  have hw : Region.wanted o (yielded ops a.tmps) = (g0 && g == want) := by
    simp only [Region.wanted, hg, yielded_frOf hj hd, ha.val, hv]
    cases g0 <;> cases g <;> cases want <;> rfl
  cases hgw : (g0 && g == want) with
  | true => exact .inl ⟨by rw [hw, hgw], by rw [ha.eval]; exact h hgw⟩
  | false => exact .inr ⟨by rw [hw, hgw], rfl⟩
theorem Yld.cast {v' : Value} (h : Yld P n ops C φ o v) (e : v = v') : Yld P n ops C φ o v' := e ▸ h

/-- what an operation's value goes to -/
structure Dst (n : Nat) (o : Option Tmp) (d : Nat) : Prop where
  eq : o = some d
  lt : Nat.blt d n = true

/-! ### a region in the text's order -/

def RL (P : Program) (n : Nat) (ops : Array Oper) (l : List Oper) (Q : Exit → Fr → World → Prop) (φ : Fr) (w : World) : Prop := ∀ a, Ag n φ a → wpList P ops (lift n Q) l a w

variable {rest : List Oper}

theorem RW.region {id : Nat} {l : List Oper} (h : RL P n l.toArray l Q φ w) : RW P n (.region id l.toArray false) Q φ w := fun a ha => wp_region_lit (h a ha)
theorem RL.nil (h : Q .normal φ w) : RL P n ops [] Q φ w := fun _ ha => wpList_nil ⟨φ, ha, h⟩
theorem RL.take (hy : Yld P n ops (· = w) φ o v) (hd : okd n o.dst = true) (h : RL P n ops rest Q (putF φ o.dst v) w) : RL P n ops (o :: rest) Q φ w := fun a ha => by
  refine wpList_step fun K hK => ?_
  rcases hy a ha with ⟨hw, hv⟩ | ⟨hw, rfl⟩
  · rw [if_pos hw]
    unfold Oper.wp
    rw [hv w rfl]
    exact hK _ _ (h _ (ha.put hd v))
  · rw [if_neg (by rw [hw]; decide)]
    exact hK _ _ (h _ (ha.put hd _))
theorem RL.eff {w' : World} (hg : o.guard = none) (hr : (execOp (ev φ) o).run P w = .ok (.value v) w') {dd : Nat} (hd : Dst n o.dst dd) (h : RL P n ops rest Q (upd φ dd v) w') : RL P n ops (o :: rest) Q φ w := fun a ha => by
  refine wpList_plain hg fun K hK => ?_
  unfold Oper.wp
  rw [ha.eval, hr]
  exact hK _ _ (h _ (by have h0 := ha.put (d := some dd) hd.lt v; rw [hd.eq]; exact h0))
theorem RL.store {w' : World} (hg : o.guard = none) (hr : (execOp (ev φ) o).run P w = .ok .skip w') (hd : o.dst = none) (h : RL P n ops rest Q φ w') : RL P n ops (o :: rest) Q φ w := fun a ha => by
  refine wpList_plain hg fun K hK => ?_
  unfold Oper.wp
  rw [ha.eval, hr]
  refine hK _ _ (h _ ?_)
  rw [hd]; exact ha
theorem RL.call {f : FuncId} {args : Array Value} {R : Ending → World → Prop} (hg : o.guard = none) (hr : (execOp (ev φ) o).run P w = .ok (.enter f args) w) {dd : Nat} (hd : Dst n o.dst dd) (hc : Calls P f args w R)
    (h : ∀ e w', R e w' → ∃ v, e = .returned v ∧ RL P n ops rest Q (upd φ dd v) w') : RL P n ops (o :: rest) Q φ w := fun a ha => by
  refine wpList_plain hg fun K hK => ?_
  unfold Oper.wp
  rw [ha.eval, hr]
  refine hc.mono fun e w' hR => ?_
  obtain ⟨v, rfl, h'⟩ := h e w' hR
  exact hK _ _ (h' _ (by have h0 := ha.put (d := some dd) hd.lt v; rw [hd.eq]; exact h0))

/-! ### a region whose order is open -/

def RD (P : Program) (n : Nat) (ops : Array Oper) (S : Array Bool → World → Prop) (Q : Exit → Fr → World → Prop) (fuel : Nat) (L : Array Bool) (φ : Fr) (w : World) : Prop :=
  Closed .any ops L ∧ S L w ∧ ∀ a, Ag n φ a → AnyL P .any ops (lift n Q) S fuel L a w

/-- a condition for the whole region; and such as hold until an operation comes up -/
def SU (F : World → Prop) (U : List (Nat × (World → Prop))) (L : Array Bool) (w : World) : Prop := F w ∧ ∀ p ∈ U, L.getD p.1 false = false → p.2 w

theorem RW.draw {id : Nat} {l : List Oper} (S : Array Bool → World → Prop) (hm : P.follows .mixedOrders = true) (hS : S (Array.replicate l.length false) w.drew)
    (h : S (Array.replicate l.length false) w.drew → RD P n l.toArray S Q l.length (Array.replicate l.length false) φ w.drew) : RW P n (.region id l.toArray true) Q φ w := fun a ha =>
  wp_region_any hm (by
    have := ((h hS).2.2 a ha).any
    simpa using this)

theorem RD.start {S : Array Bool → World → Prop} {l : List Oper} {fuel : Nat} (hS : S (Array.replicate l.length false) w) (h : ∀ a, Ag n φ a → AnyL P .any l.toArray (lift n Q) S fuel (Array.replicate l.length false) a w) :
    RD P n l.toArray S Q fuel (Array.replicate l.length false) φ w := ⟨by simpa using (Closed.start (md := .any) (ops := l.toArray)), hS, h⟩

theorem RD.done {S : Array Bool → World → Prop} {L : Array Bool} {fuel : Nat} (hr : Region.ready .any ops L = []) (hc : Closed .any ops L) (hS : S L w) (h : Q .normal φ w) : RD P n ops S Q fuel L φ w :=
  ⟨hc, hS, fun _ ha => by
    cases fuel with
    | zero => exact ⟨hr, φ, ha, h⟩
    | succ k => exact ⟨fun _ => ⟨φ, ha, h⟩, by rw [hr]; simp⟩⟩

/-- operations that only read are taken first: a batch of them, by one look -/
def takable (ops : Array Oper) : Array Bool → List Nat → Bool
  | _, [] => true
  | L, i :: r => (Region.ready .any ops L).contains i && Region.free .any ops L i && takable ops (L.setIfInBounds i true) r
def listed : Array Bool → List Nat → Array Bool
  | L, [] => L
  | L, i :: r => listed (L.setIfInBounds i true) r

/-- the batch, one behind the other; behind it K -/
def RQ (P : Program) (n : Nat) (ops : Array Oper) (S : Array Bool → World → Prop) : List Nat → Fr → (Fr → Prop) → Prop
  | [], φ, K => K φ
  | i :: r, φ, K => ∃ o v, ops[i]? = some o ∧ okd n o.dst = true ∧ Yld P n ops (Until .any ops S i) φ o v ∧ RQ P n ops S r (putF φ o.dst v) K

theorem RQ.nil {S : Array Bool → World → Prop} {K : Fr → Prop} (h : K φ) : RQ P n ops S [] φ K := h
theorem RQ.op {S : Array Bool → World → Prop} {K : Fr → Prop} {i : Nat} {r : List Nat} (o : Oper) (v : Value) (hi : ops[i]? = some o) (hd : okd n o.dst = true) (hy : Yld P n ops (Until .any ops S i) φ o v)
    (h : RQ P n ops S r (putF φ o.dst v) K) : RQ P n ops S (i :: r) φ K := ⟨o, v, hi, hd, hy, h⟩

theorem RQ.opd {S : Array Bool → World → Prop} {K : Fr → Prop} {i : Nat} {r : List Nat} (d : Nat) (hi : ops[i]? = some o) (hd : o.dst = some d) (hl : Nat.blt d n = true) (hy : Yld P n ops (Until .any ops S i) φ o v)
    (h : RQ P n ops S r (upd φ d v) K) : RQ P n ops S (i :: r) φ K := ⟨o, v, hi, by rw [hd]; exact hl, hy, by rw [hd]; exact h⟩

theorem RD.takes {S : Array Bool → World → Prop} (hs : Region.noSelect ops = true) : ∀ (l : List Nat) (fuel : Nat) (L : Array Bool) (φ : Fr), takable ops L l = true →
    (∀ i ∈ l, ∀ L w, S (L.setIfInBounds i true) w ↔ S L w) → Closed .any ops L → S L w →
    RQ P n ops S l φ (fun φ' => Closed .any ops (listed L l) → S (listed L l) w → RD P n ops S Q fuel (listed L l) φ' w) → RD P n ops S Q (l.length + fuel) L φ w
  | [], fuel, L, φ, _, _, hc, hS, h => by simpa [listed] using h hc hS
  | i :: l, fuel, L, φ, hB, hSi, hc, hS, h => by
    obtain ⟨o, v, hi, hd, hy, h⟩ := h
    simp only [takable, Bool.and_eq_true] at hB
    obtain ⟨⟨hr, hf⟩, hB'⟩ := hB
    have hr' : i ∈ Region.ready .any ops L := by simpa using hr
    have hS' := (hSi i (by simp) L w).2 hS
    have ih := RD.takes hs l fuel (L.setIfInBounds i true) _ hB' (fun j hj => hSi j (by simp [hj])) (hc.step hr') hS' h
    refine ⟨hc, hS, fun a ha => ?_⟩
    have he : (i :: l).length + fuel = l.length + fuel + 1 := by simp; omega
    rw [he]
    exact AnyL.first hi (Region.noSelect_spec hs) (fun c a w h => h) (fun L w _ h => (hSi i (by simp) L w).1 h) (fun L w _ h => (hSi i (by simp) L w).2 h)
      _ L a w hc (Region.free_spec hi hf) hr' (hy a ha) hS (ih.2.2 _ (ha.put hd v))

/-- operation i comes up next -/
def RS (P : Program) (n : Nat) (ops : Array Oper) (S : Array Bool → World → Prop) (Q : Exit → Fr → World → Prop) (fuel : Nat) (L : Array Bool) (φ : Fr) (w : World) (i : Nat) : Prop :=
  ∀ a, Ag n φ a → wpOp P ops (lift n Q) i (fun a' w' => S (L.setIfInBounds i true) w' ∧ AnyL P .any ops (lift n Q) S fuel (L.setIfInBounds i true) a' w') a w
theorem RD.one {S : Array Bool → World → Prop} {N fuel i : Nat} {L : Array Bool} (hN : N = fuel + 1) (hr : Region.ready .any ops L = [i]) (hc : Closed .any ops L) (hS : S L w) (h : RS P n ops S Q fuel L φ w i) : RD P n ops S Q N L φ w := by
  subst hN
  refine ⟨hc, hS, fun a ha => ⟨fun h0 => absurd (hr ▸ h0) (by simp), fun j hj => ?_⟩⟩
  rw [hr] at hj
  obtain rfl : j = i := by simpa using hj
  exact h a ha
theorem RD.two {S : Array Bool → World → Prop} {N fuel i k : Nat} {L : Array Bool} (hN : N = fuel + 1) (hr : Region.ready .any ops L = [i, k]) (hc : Closed .any ops L) (hS : S L w) (h : RS P n ops S Q fuel L φ w i) (h2 : RS P n ops S Q fuel L φ w k) : RD P n ops S Q N L φ w := by
  subst hN
  refine ⟨hc, hS, fun a ha => ⟨fun h0 => absurd (hr ▸ h0) (by simp), fun j hj => ?_⟩⟩
  rw [hr] at hj
  rcases (by simpa using hj : j = i ∨ j = k) with rfl | rfl
  · exact h a ha
  · exact h2 a ha

theorem RS.eff {S : Array Bool → World → Prop} {fuel i : Nat} {L : Array Bool} {w' : World} (hr : (Region.ready .any ops L).contains i = true) (hc : Closed .any ops L) (hi : ops[i]? = some o) (hg : o.guard = none)
    (hx : (execOp (ev φ) o).run P w = .ok (.value v) w') {dd : Nat} (hd : Dst n o.dst dd) (hS' : S (L.setIfInBounds i true) w')
    (h : Closed .any ops (L.setIfInBounds i true) → RD P n ops S Q fuel (L.setIfInBounds i true) (upd φ dd v) w') : RS P n ops S Q fuel L φ w i := fun a ha => by
  have hcl := hc.step (j := i) (by simpa using hr)
  unfold wpOp
  simp only [hi, Region.wanted, hg, if_true]
  refine .inl ?_
  unfold Oper.wp
  rw [ha.eval, hx]
  exact ⟨hS', (h hcl).2.2 _ (by have h0 := ha.put (d := some dd) hd.lt v; rw [hd.eq]; exact h0)⟩
theorem RS.store {S : Array Bool → World → Prop} {fuel i : Nat} {L : Array Bool} {w' : World} (hr : (Region.ready .any ops L).contains i = true) (hc : Closed .any ops L) (hi : ops[i]? = some o) (hg : o.guard = none)
    (hx : (execOp (ev φ) o).run P w = .ok .skip w') (hd : o.dst = none) (hS' : S (L.setIfInBounds i true) w')
    (h : Closed .any ops (L.setIfInBounds i true) → RD P n ops S Q fuel (L.setIfInBounds i true) φ w') : RS P n ops S Q fuel L φ w i := fun a ha => by
  have hcl := hc.step (j := i) (by simpa using hr)
  unfold wpOp
  simp only [hi, Region.wanted, hg, if_true]
  refine .inl ?_
  unfold Oper.wp
  rw [ha.eval, hx]
  refine ⟨hS', (h hcl).2.2 _ ?_⟩
  rw [hd]; exact ha
theorem RS.call {S : Array Bool → World → Prop} {fuel i : Nat} {L : Array Bool} {f : FuncId} {args : Array Value} {R : Ending → World → Prop} (hr : (Region.ready .any ops L).contains i = true) (hc : Closed .any ops L) (hi : ops[i]? = some o) (hg : o.guard = none)
    (hx : (execOp (ev φ) o).run P w = .ok (.enter f args) w) {dd : Nat} (hd : Dst n o.dst dd) (hC : Calls P f args w R)
    (h : Closed .any ops (L.setIfInBounds i true) → ∀ e w', R e w' → ∃ v, e = .returned v ∧ S (L.setIfInBounds i true) w' ∧ RD P n ops S Q fuel (L.setIfInBounds i true) (upd φ dd v) w') : RS P n ops S Q fuel L φ w i := fun a ha => by
  have hcl := hc.step (j := i) (by simpa using hr)
  unfold wpOp
  simp only [hi, Region.wanted, hg, if_true]
  refine .inl ?_
  unfold Oper.wp
  rw [ha.eval, hx]
  refine hC.mono fun e w' hR => ?_
  obtain ⟨v, rfl, hs, h'⟩ := h hcl e w' hR
  exact ⟨hs, h'.2.2 _ (by have h0 := ha.put (d := some dd) hd.lt v; rw [hd.eq]; exact h0)⟩
/-- a call under a guard that holds, or does not -/
theorem RS.gcall {S : Array Bool → World → Prop} {fuel i j d : Nat} {want g : Bool} {oj : Oper} {L : Array Bool} {f : FuncId} {args : Array Value} {R : Ending → World → Prop} (hr : (Region.ready .any ops L).contains i = true) (hc : Closed .any ops L) (hi : ops[i]? = some o)
    (hg : o.guard = some (j, want)) (hj : ops[j]? = some oj) (hjd : oj.dst = some d) (hv : φ d = .bool g)
    {dd : Nat} (hd : Dst n o.dst dd)
    (hn : (g == want) = false → S (L.setIfInBounds i true) w ∧ (Closed .any ops (L.setIfInBounds i true) → RD P n ops S Q fuel (L.setIfInBounds i true) (upd φ dd undef) w))
    (hx : (g == want) = true → (execOp (ev φ) o).run P w = .ok (.enter f args) w) (hC : (g == want) = true → Calls P f args w R)
    (h : (g == want) = true → Closed .any ops (L.setIfInBounds i true) → ∀ e w', R e w' → ∃ v, e = .returned v ∧ S (L.setIfInBounds i true) w' ∧ RD P n ops S Q fuel (L.setIfInBounds i true) (upd φ dd v) w') : RS P n ops S Q fuel L φ w i := fun a ha => by
  have hcl := hc.step (j := i) (by simpa using hr)
  have hw : Region.wanted o (yielded ops a.tmps) = (g == want) := by
    simp only [Region.wanted, hg, yielded_frOf hj hjd, ha.val, hv]
    cases g <;> cases want <;> rfl
  unfold wpOp
  simp only [hi, hw]
  cases hgw : (g == want) with
  | true =>
    simp only [if_true]
    refine .inl ?_
    unfold Oper.wp
    rw [ha.eval, hx hgw]
    refine (hC hgw).mono fun e w' hR => ?_
    obtain ⟨v, rfl, hs, h'⟩ := h hgw hcl e w' hR
    exact ⟨hs, h'.2.2 _ (by have h0 := ha.put (d := some dd) hd.lt v; rw [hd.eq]; exact h0)⟩
  | false =>
    simp only [Bool.false_eq_true, if_false]
    obtain ⟨h1, h2⟩ := hn hgw
    exact ⟨h1, (h2 hcl).2.2 _ (by have h0 := ha.put (d := some dd) hd.lt undef; rw [hd.eq]; exact h0)⟩

/-- a call under a guard that holds -/
theorem RS.gcallT {S : Array Bool → World → Prop} {fuel i j d : Nat} {oj : Oper} {L : Array Bool} {f : FuncId} {args : Array Value} {R : Ending → World → Prop} (hr : (Region.ready .any ops L).contains i = true) (hc : Closed .any ops L) (hi : ops[i]? = some o)
    (hg : o.guard = some (j, true)) (hj : ops[j]? = some oj) (hjd : oj.dst = some d) (hv : φ d = .bool true) {dd : Nat} (hd : Dst n o.dst dd)
    (hx : (execOp (ev φ) o).run P w = .ok (.enter f args) w) (hC : Calls P f args w R)
    (h : ∀ e w', R e w' → ∃ v, e = .returned v ∧ S (L.setIfInBounds i true) w' ∧ (Closed .any ops (L.setIfInBounds i true) → S (L.setIfInBounds i true) w' → RD P n ops S Q fuel (L.setIfInBounds i true) (upd φ dd v) w')) : RS P n ops S Q fuel L φ w i :=
  RS.gcall hr hc hi hg hj hjd hv hd (fun h => by cases h) (fun _ => hx) (fun _ => hC) (fun _ hcl e w' hR => let ⟨v, h1, h2, h3⟩ := h e w' hR; ⟨v, h1, h2, h3 hcl h2⟩)

/-! ### a function -/

inductive bodyQ (P : Program) (fn : Func) (R : Ending → World → Prop) : Exit → Fr → World → Prop
  | mk {e : Exit} {φ : Fr} {w : World} (he : e = .ret ∨ e = .normal) (v : Value) (h : ∀ tmps, frOf tmps = φ → (results fn tmps).run P w = .ok v w) (h2 : R (.returned v) w) : bodyQ P fn R e φ w

theorem calls_of_RW {f : FuncId} {fn : Func} {c : Code} {args : Array Value} {R : Ending → World → Prop} (hf : P.funcs[f]? = some fn) (hb : fn.body = some c) (hs : args.size ≤ fn.ntmps)
    (h : RW P fn.ntmps c (bodyQ P fn R) (frOf args) w) : Calls P f args w R := by
  refine calls_of_wp hf hb (wp_mono (h _ ⟨by simp; omega, rfl, ?_⟩) fun e a w h => ?_)
  · funext t
    simp only [frOf, Array.getD_eq_getD_getElem?, Array.getElem?_append]
    split
    · rfl
    · rename_i hge
      rw [Array.getElem?_replicate, Array.getElem?_eq_none (Nat.le_of_not_lt hge)]
      split <;> rfl
  · cases e with
    | panic c => exact h.elim
    | outgrown => exact h.elim
    | normal => obtain ⟨φ, h1, _, v, h2, h3⟩ := h; exact ⟨h1.dfr, v, h2 _ h1.val, h3⟩
    | ret => obtain ⟨φ, h1, _, v, h2, h3⟩ := h; exact ⟨h1.dfr, v, h2 _ h1.val, h3⟩
    | exit i => obtain ⟨φ, h1, he, _⟩ := h; rcases he with he | he <;> cases he
    | goto i => obtain ⟨φ, h1, he, _⟩ := h; rcases he with he | he <;> cases he

variable {fn : Func} {R : Ending → World → Prop}
theorem ret0 {e : Exit} (he : e = .ret ∨ e = .normal) (hr : fn.results = #[]) (h : R (.returned (.tuple #[])) w) : bodyQ P fn R e φ w :=
  .mk he _ (fun tmps _ => by simp [results, hr]) h
theorem ret1 {e : Exit} {t : Tmp} (he : e = .ret ∨ e = .normal) (hr : fn.results = #[.tmp t]) (h : R (.returned (φ t)) w) : bodyQ P fn R e φ w :=
  .mk he (φ t) (fun tmps e => by subst e; simp [results, hr, frOf]) h
theorem ret2 {e : Exit} {t u : Tmp} (he : e = .ret ∨ e = .normal) (hr : fn.results = #[.tmp t, .tmp u]) (h : R (.returned (.tuple #[φ t, φ u])) w) : bodyQ P fn R e φ w :=
  .mk he (.tuple #[φ t, φ u]) (fun tmps e => by subst e; simp [results, hr, frOf]) h
theorem ret3 {e : Exit} {t u x : Tmp} (he : e = .ret ∨ e = .normal) (hr : fn.results = #[.tmp t, .tmp u, .tmp x]) (h : R (.returned (.tuple #[φ t, φ u, φ x])) w) : bodyQ P fn R e φ w :=
  .mk he (.tuple #[φ t, φ u, φ x]) (fun tmps e => by subst e; simp [results, hr, frOf]) h
theorem retOf {e : Exit} (he : e = .ret ∨ e = .normal) (v : Value) (h : ∀ tmps, frOf tmps = φ → (results fn tmps).run P w = .ok v w) (h2 : R (.returned v) w) : bodyQ P fn R e φ w := by
  exact .mk he v h h2

end
end Go.Hw
