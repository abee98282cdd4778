/- Structs as keys, and '==' of structs. -/
import Derived.Test.YtjahbhpcaenllaaHwObj
import Derived.Laws.StructEq
namespace Go.Hw
open Go

section
variable {P : Program} (w : World)
/-- the fields' keys are looked at one by one -/
def keyFields (em : Bool) (d : Nat) (cs : Array Value) : List Field → Sem Unit
  | [] => pure ()
  | f :: fs => do
    if f.name ≠ "_" then Instr.checkKey em d f.type (← part f.type cs f.offset)
    keyFields em d cs fs
theorem run_checkKey_struct (em : Bool) (d : Nat) (t : TypeId) (cs : Array Value) (ht : P.underlying t = some (.struct (P.fieldsOf t))) :
    (Instr.checkKey em (d + 1) t (.agg cs)).run P w = (keyFields em d cs (P.fieldsOf t).toList).run P w := by
  simp only [Instr.checkKey, Sem.run_bind, run_underlying ht, Result.andThen_ok]
  rw [← Array.forIn_toList]
  generalize (P.fieldsOf t).toList = fs
  clear ht
  induction fs generalizing w with
  | nil => simp [keyFields]
  | cons f fs ih =>
    simp only [List.forIn_cons, keyFields, Sem.run_bind, Sem.run_ite]
    split
    · generalize (part f.type cs f.offset).run P w = r1
      cases r1 with
      | ok a w1 =>
        simp only [Result.andThen_ok]
        generalize (Instr.checkKey em d f.type a).run P w1 = r2
        cases r2 with
        | ok b w2 =>
          simp only [Result.andThen_ok, Sem.run_pure]
          exact ih w2
        | halt x w2 => simp [Result.andThen]
      | halt x w1 => simp [Result.andThen]
    · simp only [Sem.run_pure, Result.andThen_ok]
      exact ih w
theorem run_checkKey_int (em : Bool) (d : Nat) (t : TypeId) (k k' : IntKind) (a : Int) (h : P.underlying t = some (.int k')) : (Instr.checkKey em (d + 1) t (.int k a)).run P w = .ok () w := by
  simp [Instr.checkKey, run_underlying h]
theorem run_checkKey_bool (em : Bool) (d : Nat) (t : TypeId) (a : Bool) (h : P.underlying t = some .bool) : (Instr.checkKey em (d + 1) t (.bool a)).run P w = .ok () w := by
  simp [Instr.checkKey, run_underlying h]
end
theorem sameBits_agg (n : Nat) (cs : List Value) (h : cs.all (fun v => match v with | .int _ _ | .bool _ => true | _ => false) = true) : Instr.sameBits (n + 2) (.agg cs.toArray) (.agg cs.toArray) = true := by
  simp only [Instr.sameBits, beq_self_eq_true, Bool.true_and]
  induction cs with
  | nil => rfl
  | cons c cs ih =>
    simp only [List.all_cons, Bool.and_eq_true] at h
    simp only [List.zip_cons_cons, List.all_cons, Bool.and_eq_true]
    refine ⟨?_, ih h.2⟩
    have := h.1
    cases c <;> simp at this <;> simp [Instr.sameBits]

/-- '==' of a struct type -/
def EqS (P : Program) (t : TypeId) {α : Type} [DecidableEq α] (E : α → List Value) : Prop := ∀ d w x y, (Op.equalIn (d + 8) t (.agg (E x).toArray) (.agg (E y).toArray)).run P w = .ok (decide (x = y)) w
theorem EqS.op {P : Program} {t : TypeId} {α : Type} [DecidableEq α] {E : α → List Value} (h : EqS P t E) (w : World) (x y : α) : (Op.equal t (.agg (E x).toArray) (.agg (E y).toArray)).run P w = .ok (decide (x = y)) w := h 9992 w x y
section
variable {P : Program} {w : World} {t t' : TypeId} {ρ : Operand → Value} {d : Option Tmp} {ty : TypeId} {ps : String} {af : Array Edge} {g : Option (Nat × Bool)} {x y : Operand} {α : Type} [DecidableEq α] {E : α → List Value}
theorem X_eqlQ (h : EqS P t E) (hm : P.eqGuardType P.depth t = false) (a b : α) (hx : ρ x = .agg (E a).toArray) (hy : ρ y = .agg (E b).toArray) : (execOp ρ ⟨d, .binOp .eql t x y t', ty, ps, af, g⟩).run P w = .ok (.value (.bool (decide (a = b)))) w :=
  X_bin hx hy (run_eqGuard_agg w .eql t x y _ _ hm) (by rw [run_eql_struct]; rw [show (Op.equalIn 10000 t (.agg (E a).toArray) (.agg (E b).toArray)).run P w = .ok (decide (a = b)) w from h 9992 w a b]; rfl)
theorem X_neqQ (h : EqS P t E) (hm : P.eqGuardType P.depth t = false) (a b : α) (hx : ρ x = .agg (E a).toArray) (hy : ρ y = .agg (E b).toArray) : (execOp ρ ⟨d, .binOp .neq t x y t', ty, ps, af, g⟩).run P w = .ok (.value (.bool (!decide (a = b)))) w :=
  X_bin hx hy (run_eqGuard_agg w .neq t x y _ _ hm) (by rw [run_neq_struct]; rw [show (Op.equalIn 10000 t (.agg (E a).toArray) (.agg (E b).toArray)).run P w = .ok (decide (a = b)) w from h 9992 w a b]; rfl)
theorem eqGuard_bool {op : BinOp} {a b : Bool} : (eqGuard op t x y (.bool a) (.bool b)).run P w = .ok () w := by
  cases op <;> rfl
theorem equalIn_bool {a b : Bool} (h : P.underlying t = some .bool) (n : Nat) : (Op.equalIn (n + 1) t (.bool a) (.bool b)).run P w = .ok (a == b) w := by
  simp [Op.equalIn, run_underlying h]
theorem equal_bool {a b : Bool} (h : P.underlying t = some .bool) : (Op.equal t (.bool a) (.bool b)).run P w = .ok (a == b) w := equalIn_bool h 9999
theorem X_eqlB {a b : Bool} (h : P.underlying t = some .bool) (hx : ρ x = .bool a) (hy : ρ y = .bool b) : (execOp ρ ⟨d, .binOp .eql t x y t', ty, ps, af, g⟩).run P w = .ok (.value (.bool (a == b))) w :=
  X_bin hx hy eqGuard_bool (by simp [binOp, equal_bool h])
theorem X_neqB {a b : Bool} (h : P.underlying t = some .bool) (hx : ρ x = .bool a) (hy : ρ y = .bool b) : (execOp ρ ⟨d, .binOp .neq t x y t', ty, ps, af, g⟩).run P w = .ok (.value (.bool (!(a == b)))) w :=
  X_bin hx hy eqGuard_bool (by simp [binOp, equal_bool h])
end
end Go.Hw
