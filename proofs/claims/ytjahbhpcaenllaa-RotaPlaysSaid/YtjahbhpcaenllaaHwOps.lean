/- What each operation yields, one lemma a kind: its operands' values and its types' rows are the premises. -/
import Derived.Test.YtjahbhpcaenllaaHwFrame
import Derived.WalkKit
import Derived.WalkLawsBesides
namespace Go.Hw
open Go

/-- a type's row: its zero value, its cells, its bytes -/
def Inf (P : Program) (t : TypeId) (z : Value) (s b : Nat) : Prop := (P.info? t).map (fun i => (i.zero, i.size, i.bytes)) = some (some z, s, b)
def aggB : TypeDesc → Bool
  | .struct _ | .array _ _ => true
  | _ => false

section
variable {P : Program} {w : World} {t : TypeId} {z : Value} {s b : Nat}

theorem Inf.parts (h : Inf P t z s b) : ∃ i, P.info? t = some i ∧ i.zero = some z ∧ i.size = s ∧ i.bytes = b := by
  unfold Inf at h
  cases hi : P.info? t with
  | none => simp [hi] at h
  | some i =>
    simp only [hi, Option.map_some, Option.some.injEq, Prod.mk.injEq] at h
    exact ⟨i, rfl, h.1, h.2.1, h.2.2⟩
theorem Inf.typeInfo (h : Inf P t z s b) : ∃ i : TypeInfo, (∀ w, (typeInfo t).run P w = .ok i w) ∧ i.zero = some z ∧ i.size = s ∧ i.bytes = b := by
  obtain ⟨i, h1, h2⟩ := h.parts
  exact ⟨i, fun w => by simp [Go.typeInfo, h1], h2⟩
theorem Inf.sizeOf (h : Inf P t z s b) (w : World) : (sizeOf t).run P w = .ok s w := by
  obtain ⟨i, h1, h2, h3, h4⟩ := h.typeInfo
  simp [Go.sizeOf, h1, h3]
theorem Inf.zero (h : Inf P t z s b) (w : World) : (zeroValue t).run P w = .ok z w := by
  obtain ⟨i, h1, h2, h3, h4⟩ := h.typeInfo
  simp [Go.zeroValue, h1, h2]
theorem run_isAgg {d : TypeDesc} (h : P.underlying t = some d) (w : World) : (isAgg t).run P w = .ok (aggB d) w := by
  unfold isAgg
  simp [run_underlying h]
  cases d <;> rfl

variable {ρ : Operand → Value} {d : Option Tmp} {ty t' : TypeId} {ps : String} {af : Array Edge} {g : Option (Nat × Bool)} {x y c : Operand} {k : IntKind} {a e : Int} {v u : Value}

theorem X_move (hx : ρ x = v) : (execOp ρ ⟨d, .move x, ty, ps, af, g⟩).run P w = .ok (.value v) w := by subst hx; rfl
theorem X_assign (hx : ρ x = v) : (execOp ρ ⟨d, .assign x, ty, ps, af, g⟩).run P w = .ok (.value v) w := by subst hx; rfl

theorem X_bin {op : BinOp} (hx : ρ x = v) (hy : ρ y = u) (hq : (eqGuard op t x y v u).run P w = .ok () w) {r : Value} (hr : (binOp op t v u).run P w = .ok r w) :
    (execOp ρ ⟨d, .binOp op t x y t', ty, ps, af, g⟩).run P w = .ok (.value r) w := by
  subst hx; subst hy
  simp only [execOp, Sem.run_bind, hq, Result.andThen, hr]; rfl
theorem eqGuard_int {op : BinOp} : (eqGuard op t x y (.int k a) (.int k e)).run P w = .ok () w := by
  cases op <;> rfl
theorem X_lss (hx : ρ x = .int k a) (hy : ρ y = .int k e) : (execOp ρ ⟨d, .binOp .lss t x y t', ty, ps, af, g⟩).run P w = .ok (.value (.bool (decide (a < e)))) w := X_bin hx hy eqGuard_int (by simp [binOp, Op.intCmp])
theorem X_leq (hx : ρ x = .int k a) (hy : ρ y = .int k e) : (execOp ρ ⟨d, .binOp .leq t x y t', ty, ps, af, g⟩).run P w = .ok (.value (.bool (decide (a ≤ e)))) w := X_bin hx hy eqGuard_int (by simp [binOp, Op.intCmp])
theorem X_gtr (hx : ρ x = .int k a) (hy : ρ y = .int k e) : (execOp ρ ⟨d, .binOp .gtr t x y t', ty, ps, af, g⟩).run P w = .ok (.value (.bool (decide (e < a)))) w := X_bin hx hy eqGuard_int (by simp [binOp, Op.intCmp])
theorem X_geq (hx : ρ x = .int k a) (hy : ρ y = .int k e) : (execOp ρ ⟨d, .binOp .geq t x y t', ty, ps, af, g⟩).run P w = .ok (.value (.bool (decide (e ≤ a)))) w := X_bin hx hy eqGuard_int (by simp [binOp, Op.intCmp])
theorem X_eql (hx : ρ x = .int k a) (hy : ρ y = .int k e) : (execOp ρ ⟨d, .binOp .eql t x y t', ty, ps, af, g⟩).run P w = .ok (.value (.bool (decide (a = e)))) w := X_bin hx hy eqGuard_int (by simp [binOp, Op.intCmp]; rfl)
theorem X_neq (hx : ρ x = .int k a) (hy : ρ y = .int k e) : (execOp ρ ⟨d, .binOp .neq t x y t', ty, ps, af, g⟩).run P w = .ok (.value (.bool (!decide (a = e)))) w := X_bin hx hy eqGuard_int (by simp [binOp, Op.intCmp]; rfl)

theorem wrap_in {n : Int} (h : -9223372036854775808 ≤ n ∧ n ≤ 9223372036854775807) : IntKind.i64.wrap n = n := by rw [IntKind.wrap_i64]; omega
theorem X_addw (hx : ρ x = .int k a) (hy : ρ y = .int k e) : (execOp ρ ⟨d, .binOp .add t x y t', ty, ps, af, g⟩).run P w = .ok (.value (.int k (k.wrap (a + e)))) w := X_bin hx hy eqGuard_int (by simp [binOp, Op.intArith])
theorem X_subw (hx : ρ x = .int k a) (hy : ρ y = .int k e) : (execOp ρ ⟨d, .binOp .sub t x y t', ty, ps, af, g⟩).run P w = .ok (.value (.int k (k.wrap (a - e)))) w := X_bin hx hy eqGuard_int (by simp [binOp, Op.intArith])
theorem X_mulw (hx : ρ x = .int k a) (hy : ρ y = .int k e) : (execOp ρ ⟨d, .binOp .mul t x y t', ty, ps, af, g⟩).run P w = .ok (.value (.int k (k.wrap (a * e)))) w := X_bin hx hy eqGuard_int (by simp [binOp, Op.intArith])
theorem X_add {r : Int} (hx : ρ x = .int .i64 a) (hy : ρ y = .int .i64 e) (h : -9223372036854775808 ≤ a + e ∧ a + e ≤ 9223372036854775807) (hr : a + e = r) : (execOp ρ ⟨d, .binOp .add t x y t', ty, ps, af, g⟩).run P w = .ok (.value (.int .i64 r)) w := by rw [X_addw hx hy, wrap_in h, hr]
theorem X_sub {r : Int} (hx : ρ x = .int .i64 a) (hy : ρ y = .int .i64 e) (h : -9223372036854775808 ≤ a - e ∧ a - e ≤ 9223372036854775807) (hr : a - e = r) : (execOp ρ ⟨d, .binOp .sub t x y t', ty, ps, af, g⟩).run P w = .ok (.value (.int .i64 r)) w := by rw [X_subw hx hy, wrap_in h, hr]
theorem X_mul {r : Int} (hx : ρ x = .int .i64 a) (hy : ρ y = .int .i64 e) (h : -9223372036854775808 ≤ a * e ∧ a * e ≤ 9223372036854775807) (hr : a * e = r) : (execOp ρ ⟨d, .binOp .mul t x y t', ty, ps, af, g⟩).run P w = .ok (.value (.int .i64 r)) w := by rw [X_mulw hx hy, wrap_in h, hr]
theorem X_quo {r : Int} (hx : ρ x = .int .i64 a) (hy : ρ y = .int .i64 e) (h0 : e ≠ 0) (h : -9223372036854775808 ≤ a.tdiv e ∧ a.tdiv e ≤ 9223372036854775807) (hr : a.tdiv e = r) : (execOp ρ ⟨d, .binOp .quo t x y t', ty, ps, af, g⟩).run P w = .ok (.value (.int .i64 r)) w :=
  X_bin hx hy eqGuard_int (by subst hr; simp [binOp, Op.intDiv, h0, wrap_in h])
theorem X_rem {r : Int} (hx : ρ x = .int .i64 a) (hy : ρ y = .int .i64 e) (h0 : e ≠ 0) (hr : a.tmod e = r) : (execOp ρ ⟨d, .binOp .rem t x y t', ty, ps, af, g⟩).run P w = .ok (.value (.int .i64 r)) w :=
  X_bin hx hy eqGuard_int (by subst hr; simp [binOp, Op.intDiv, h0])

theorem X_not {p : Bool} (hx : ρ x = .bool p) : (execOp ρ ⟨d, .unOp .not t x, ty, ps, af, g⟩).run P w = .ok (.value (.bool (!p))) w := by
  simp only [execOp, hx]; rfl
theorem X_neg {r : Int} (hx : ρ x = .int .i64 a) (h : -9223372036854775808 ≤ -a ∧ -a ≤ 9223372036854775807) (hr : -a = r) : (execOp ρ ⟨d, .unOp .neg t x, ty, ps, af, g⟩).run P w = .ok (.value (.int .i64 r)) w := by
  have h0 : IntKind.i64.wrap (0 - a) = r := by rw [wrap_in (by omega), ← hr]; omega
  simp only [execOp, hx]
  show Result.ok (Next.value (.int .i64 (IntKind.i64.wrap (0 - a)))) w = _
  rw [h0]

theorem X_pick {p : Bool} (hc : ρ c = .bool p) (hx : ρ x = v) (hy : ρ y = u) : (execOp ρ ⟨d, .pick c x y, ty, ps, af, g⟩).run P w = .ok (.value (bif p then v else u)) w := by
  subst hx; subst hy
  simp only [execOp, hc]
  cases p <;> rfl
theorem X_pickB {p q r : Bool} (hc : ρ c = .bool p) (hx : p = true → ρ x = .bool q) (hy : p = false → ρ y = .bool r) : (execOp ρ ⟨d, .pick c x y, ty, ps, af, g⟩).run P w = .ok (.value (.bool (bif p then q else r))) w := by
  simp only [execOp, hc]
  cases p with
  | true => rw [hx rfl]; rfl
  | false => rw [hy rfl]; rfl
theorem gb_on {q : Bool} (h : q = true) : gb q v = v := by subst h; rfl
theorem gbT {p : Bool} (h : p = true) : gb (p == true) v = v := by subst h; rfl
theorem gbF {p : Bool} (h : p = false) : gb (p == false) v = v := by subst h; rfl

theorem X_len {n cp : Nat} {A : Option Addr} (hu : P.underlying t = some (.slice t')) (hx : ρ x = .slice A n cp) : (execOp ρ ⟨d, .call ⟨.builtin .len, #[x], #[t]⟩, ty, ps, af, g⟩).run P w = .ok (.value (.int .i64 n)) w := by
  simp [execOp, resolve, hx, invoke, builtin, Builtin.len_, run_underlying hu, goInt]
theorem X_extract {vs : Array Value} {i : Nat} (hx : ρ x = .tuple vs) (hv : vs[i]? = some v) : (execOp ρ ⟨d, .extract x i, ty, ps, af, g⟩).run P w = .ok (.value v) w := by
  simp [execOp, hx, Instr.extract, hv]
theorem X_fieldAddr {fs : Array Field} {f : Field} {i bl o r : Nat} {z' : Value} {s' b' : Nat} (hu : P.underlying t = some (.struct fs)) (hf : fs[i]? = some f) (hi : Inf P f.type z' (s' + 1) b') (hx : ρ x = .pointer (some ⟨bl, o, none⟩)) (hr : o + f.offset = r) :
    (execOp ρ ⟨d, .fieldAddr t x i, ty, ps, af, g⟩).run P w = .ok (.value (.pointer (some ⟨bl, r, none⟩))) w := by
  subst hr
  have ha : (⟨bl, o, none⟩ : Addr).add f.offset = ⟨bl, o + f.offset, none⟩ := by
    unfold Addr.add; split
    · rename_i h; rw [h]; rfl
    · rfl
  simp [execOp, Instr.fieldAt, run_underlying hu, hf, hx, Instr.sureAddr, fieldPlace, hi.sizeOf, ha]
theorem X_indexAddr {el : TypeId} {n cp bl o i : Nat} {k' : IntKind} (hu : P.underlying t = some (.slice el)) (hi : Inf P el z s b) (hx : ρ x = .slice (some ⟨bl, o, none⟩) n cp) (hy : ρ y = .int k' (i : Int)) (hlt : i < n) :
    (execOp ρ ⟨d, .indexAddr t x y, ty, ps, af, g⟩).run P w = .ok (.value (.pointer (some ⟨bl, o + i * s, none⟩))) w := by
  have ha : (⟨bl, o, none⟩ : Addr).add (i * s) = ⟨bl, o + i * s, none⟩ := by
    unfold Addr.add; split
    · rename_i h; rw [h]; rfl
    · rfl
  have h1 : (0 : Int) ≤ (i : Int) ∧ (i : Int) < (n : Int) := by omega
  have h2 : ¬ n ≤ i := by omega
  simp [execOp, Instr.indexAt, hx, hy, asIntOf, run_underlying hu, h1, h2, hi.sizeOf, ha]
theorem X_indexAddrA {el : TypeId} {n bl o i : Nat} {k' : IntKind} (hu : P.underlying t = some (.array n el)) (hi : Inf P el z s b) (hx : ρ x = .pointer (some ⟨bl, o, none⟩)) (hy : ρ y = .int k' (i : Int)) (hlt : i < n) :
    (execOp ρ ⟨d, .indexAddr t x y, ty, ps, af, g⟩).run P w = .ok (.value (.pointer (some ⟨bl, o + i * s, none⟩))) w := by
  have ha : (⟨bl, o, none⟩ : Addr).add (i * s) = ⟨bl, o + i * s, none⟩ := by
    unfold Addr.add; split
    · rename_i h; rw [h]; rfl
    · rfl
  have h1 : (0 : Int) ≤ (i : Int) ∧ (i : Int) < (n : Int) := by omega
  have h2 : ¬ n ≤ i := by omega
  simp [execOp, Instr.indexAt, hx, hy, asIntOf, run_underlying hu, h1, h2, hi.sizeOf, ha, Instr.sureAddr]
theorem X_nilP {ad : Addr} (hx : ρ x = .pointer (some ad)) : (execOp ρ ⟨d, .nilCheck x, ty, ps, af, g⟩).run P w = .ok (.value (.pointer (some ad))) w := by
  simp only [execOp, hx]; rfl

theorem X_load {td : TypeDesc} {ad : Addr} (hu : P.underlying t = some td) (hd : aggB td = false) (hx : ρ x = .pointer (some ad)) (hc : w.cell? ad = some v) : (execOp ρ ⟨d, .load t x, ty, ps, af, g⟩).run P w = .ok (.value v) w := by
  have h1 := run_isAgg (P := P) (t := t) hu w
  rw [hd] at h1
  simp [execOp, Instr.loadAt, hx, Instr.sureAddr, loadVar, h1, hc]
theorem X_loadAgg {td : TypeDesc} {bl o : Nat} (cs : List Value) (hu : P.underlying t = some td) (hd : aggB td = true) (hi : Inf P t z cs.length b) (hx : ρ x = .pointer (some ⟨bl, o, none⟩))
    (hc : ∀ j u, cs[j]? = some u → w.cell? ⟨bl, o + j, none⟩ = some u) : (execOp ρ ⟨d, .load t x, ty, ps, af, g⟩).run P w = .ok (.value (.agg cs.toArray)) w := by
  have h1 := run_isAgg (P := P) (t := t) hu w
  rw [hd] at h1
  have h2 : (loadCells ⟨bl, o, none⟩ cs.length).run P w = .ok cs.toArray w := run_loadCells_list w _ cs fun j u hj => by
    have : (⟨bl, o, none⟩ : Addr).add j = ⟨bl, o + j, none⟩ := by
      unfold Addr.add; split
      · rename_i h; rw [h]; rfl
      · rfl
    rw [this]; exact hc j u hj
  simp [execOp, Instr.loadAt, hx, Instr.sureAddr, loadVar, h1, hi.sizeOf, h2]

theorem X_alloc (hi : Inf P t z s b) : (execOp ρ ⟨d, .alloc t, ty, ps, af, g⟩).run P w = .ok (.value (.pointer (some ⟨w.heap.size, 0, none⟩))) (w.alloc (.cells z.cells t)) := by
  simp [execOp, Instr.alloc, hi.zero, newVar, newRow, newObj]
  rfl
theorem X_box (hx : ρ x = v) : (execOp ρ ⟨d, .box t x, ty, ps, af, g⟩).run P w = .ok (.value (.pointer (some ⟨w.heap.size, 0, none⟩))) (w.alloc (.cells v.cells t)) := by
  subst hx
  simp [execOp, Instr.box, newVar, newRow, newObj]
  rfl
theorem X_call {f : FuncId} {xs : Array Operand} {ts : Array TypeId} {cap fst : Array Value} (hx : ρ x = .func (.func f) fst cap) (he : ∀ args w, (callFunc f args).run P w = .ok (.enter f args) w) {args : Array Value} (ha : fst ++ xs.map ρ ++ cap = args) :
    (execOp ρ ⟨d, .call ⟨.value x, xs, ts⟩, ty, ps, af, g⟩).run P w = .ok (.enter f args) w := by
  subst ha
  simp only [execOp, resolve, hx, Deferred.ofValue, Sem.run_bind, Sem.run_pure, Result.andThen, invoke]
  exact he _ _
theorem X_callF {φ : Fr} {f : FuncId} {l : List Operand} {ts : Array TypeId} (he : ∀ args w, (callFunc f args).run P w = .ok (.enter f args) w) {args : Array Value} (ha : (l.map (ev φ)).toArray = args) :
    (execOp (ev φ) ⟨d, .call ⟨.value (.func f), l.toArray, ts⟩, ty, ps, af, g⟩).run P w = .ok (.enter f args) w := X_call rfl he (by rw [← ha]; simp)
theorem X_callC {φ : Fr} {f : FuncId} {l : List Operand} {cap : List Value} {ts : Array TypeId} (hx : ev φ x = .func (.func f) #[] cap.toArray) (he : ∀ args w, (callFunc f args).run P w = .ok (.enter f args) w) {args : Array Value} (ha : (l.map (ev φ) ++ cap).toArray = args) :
    (execOp (ev φ) ⟨d, .call ⟨.value x, l.toArray, ts⟩, ty, ps, af, g⟩).run P w = .ok (.enter f args) w := X_call hx he (by rw [← ha]; simp)
theorem X_makeFunc {fn : Fn} {f c : Array Operand} {f' c' : Array Value} (hf : f.map ρ = f') (hc : c.map ρ = c') : (execOp ρ ⟨d, .makeFunc fn f c, ty, ps, af, g⟩).run P w = .ok (.value (.func fn f' c')) w := by
  subst hf; subst hc
  simp [execOp, Instr.makeFunc]
theorem X_makeFuncL {fn : Fn} {f c : List Operand} {f' c' : List Value} (hf : f.map ρ = f') (hc : c.map ρ = c') : (execOp ρ ⟨d, .makeFunc fn f.toArray c.toArray, ty, ps, af, g⟩).run P w = .ok (.value (.func fn f'.toArray c'.toArray)) w := by
  subst hf; subst hc
  simp [execOp, Instr.makeFunc]
theorem X_store {ad : Addr} {old : Value} (hi : Inf P t z 1 b) (hx : ρ x = .pointer (some ad)) (hy : ρ y = v) (h1 : v.oneCell' = true) (hc : w.cell? ad = some old) (hf : w.frozen? ad = false) :
    (execOp ρ ⟨d, .store t x y, ty, ps, af, g⟩).run P w = .ok .skip (w.setCell ad v) := by
  subst hy
  have hcl : (ρ y).cells = #[ρ y] := by
    generalize ρ y = v at *
    cases v <;> first | rfl | (simp [Value.oneCell'] at h1)
  simp [execOp, Instr.storeAt, hx, Instr.sureAddr, storeVar, hcl, hi.sizeOf, storeCells, Addr.add, run_store _ _ _ _ _ h1, hc, hf]

theorem X_conv {td : TypeDesc} {k' : IntKind} {r : Int} (hs : P.underlying t = some td) (hd : P.underlying t' = some (.int k')) (hx : ρ x = .int k a) (hr : k'.wrap a = r) : (execOp ρ ⟨d, .convert t t' x, ty, ps, af, g⟩).run P w = .ok (.value (.int k' r)) w := by
  subst hr
  cases td <;> simp [execOp, convert, run_underlying hs, run_underlying hd, hx, Conv.intToInt]
theorem wrapU_in {n : Int} (h : 0 ≤ n ∧ n ≤ 18446744073709551615) : IntKind.u64.wrap n = n := by
  have e : (2 : Int) ^ IntKind.u64.bits = 18446744073709551616 := by decide
  unfold IntKind.wrap
  simp only [IntKind.signed, Bool.false_and, Bool.false_eq_true, if_false, e]
  omega
theorem X_convU {td : TypeDesc} (hs : P.underlying t = some td) (hd : P.underlying t' = some (.int .u64)) (hx : ρ x = .int .i64 a) (h : 0 ≤ a ∧ a ≤ 18446744073709551615) : (execOp ρ ⟨d, .convert t t' x, ty, ps, af, g⟩).run P w = .ok (.value (.int .u64 a)) w := X_conv hs hd hx (wrapU_in h)
theorem X_convI {td : TypeDesc} {r : Int} (hs : P.underlying t = some td) (hd : P.underlying t' = some (.int .i64)) (hx : ρ x = .int .u64 a) (h : -9223372036854775808 ≤ a ∧ a ≤ 9223372036854775807) (hr : a = r) : (execOp ρ ⟨d, .convert t t' x, ty, ps, af, g⟩).run P w = .ok (.value (.int .i64 r)) w := X_conv hs hd hx (by rw [wrap_in h, hr])
theorem X_shr {k' : IntKind} {r : Int} (hx : ρ x = .int k a) (hy : ρ y = .int k' e) (h0 : 0 ≤ e) (hr : a.fdiv (2 ^ min e.toNat k.bits) = r) : (execOp ρ ⟨d, .binOp .shr t x y t', ty, ps, af, g⟩).run P w = .ok (.value (.int k r)) w := by
  subst hr
  have hq : (eqGuard .shr t x y (.int k a) (.int k' e)).run P w = .ok () w := rfl
  refine X_bin hx hy hq ?_
  simp only [binOp, Op.shift]
  rw [if_neg (by omega)]
  rfl
theorem X_shr1 {k' : IntKind} (hx : ρ x = .int .u64 a) (hy : ρ y = .int k' 1) : (execOp ρ ⟨d, .binOp .shr t x y t', ty, ps, af, g⟩).run P w = .ok (.value (.int .u64 (a / 2))) w := X_shr hx hy (by omega) (by
  have : min (1 : Int).toNat IntKind.u64.bits = 1 := by decide
  rw [this, Int.pow_succ, Int.pow_zero, Int.one_mul, Int.fdiv_eq_ediv_of_nonneg _ (by omega)])

def mn (a b : Int) : Int := if b < a then b else a
def mx (a b : Int) : Int := if b > a then b else a
theorem X_min2 {l : Array TypeId} (hx : ρ x = .int k a) (hy : ρ y = .int k e) : (execOp ρ ⟨d, .call ⟨.builtin .min, #[x, y], l⟩, ty, ps, af, g⟩).run P w = .ok (.value (.int k (mn a e))) w := by
  simp [execOp, resolve, hx, hy, invoke, builtin, Builtin.min_, Builtin.min2, mn]
theorem X_max2 {l : Array TypeId} (hx : ρ x = .int k a) (hy : ρ y = .int k e) : (execOp ρ ⟨d, .call ⟨.builtin .max, #[x, y], l⟩, ty, ps, af, g⟩).run P w = .ok (.value (.int k (mx a e))) w := by
  simp [execOp, resolve, hx, hy, invoke, builtin, Builtin.max_, Builtin.max2, mx]
theorem X_min3 {l : Array TypeId} {q : Int} (hx : ρ x = .int k a) (hy : ρ y = .int k e) (hc : ρ c = .int k q) : (execOp ρ ⟨d, .call ⟨.builtin .min, #[x, y, c], l⟩, ty, ps, af, g⟩).run P w = .ok (.value (.int k (mn (mn a e) q))) w := by
  simp [execOp, resolve, hx, hy, hc, invoke, builtin, Builtin.min_, Builtin.min2]
  rfl
theorem X_max3 {l : Array TypeId} {q : Int} (hx : ρ x = .int k a) (hy : ρ y = .int k e) (hc : ρ c = .int k q) : (execOp ρ ⟨d, .call ⟨.builtin .max, #[x, y, c], l⟩, ty, ps, af, g⟩).run P w = .ok (.value (.int k (mx (mx a e) q))) w := by
  simp [execOp, resolve, hx, hy, hc, invoke, builtin, Builtin.max_, Builtin.max2]
  rfl
theorem X_build {l : List (Nat × Operand)} {cells : Array Value} (h : P.built t (l.map fun p => (p.1, ρ p.2)) = some cells) : (execOp ρ ⟨d, .build t l.toArray, ty, ps, af, g⟩).run P w = .ok (.value (.agg cells)) w := by
  have h' : P.built t ((l.toArray.map fun (i, x) => (i, ρ x)).toList) = some cells := by
    rw [← h]; congr 1; simp
  simp only [execOp, Sem.run_bind, run_build w t _ cells h', Result.andThen]; rfl
end
end Go.Hw
