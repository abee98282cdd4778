/- Rows of numbers in a block, as the library's sort sees them; a comparison that is called under a guard. -/
import Derived.Test.YtjahbhpcaenllaaHwSlice
import Derived.Test.YtjahbhpcaenllaaHwModel
import Derived.Test.YtjahbhpcaenllaaHwSortLaw
namespace Go.Hw
open Go

theorem at_get {w : World} {g j : Nat} {e : TypeId} {xs : List Int} {rest : List Value} (h : At w g (.cells (ints xs ++ rest).toArray e)) (hj : j < xs.length) : w.cell? ⟨g, 0 + j * 1, none⟩ = some (.int .i64 (xs.getD j 0)) := by
  rw [h.cell, Nat.zero_add, Nat.mul_one]
  simp [List.getElem?_append_left, ints, hj, List.getD_eq_getElem?_getD]
theorem at_set {w : World} {g j : Nat} {e : TypeId} {xs : List Int} {a : Int} {rest : List Value} (h : At w g (.cells (splice (ints xs ++ rest).toArray (0 + j * 1) (Value.int .i64 a).cells.toList) e)) (hj : j < xs.length) : At w g (.cells (ints (xs.set j a) ++ rest).toArray e) := by
  have e0 : splice (ints xs ++ rest).toArray (0 + j * 1) (Value.int .i64 a).cells.toList = (ints (xs.set j a) ++ rest).toArray := by
    have hc : (Value.int .i64 a).cells.toList = [.int .i64 a] := rfl
    unfold splice
    rw [hc, Nat.zero_add, Nat.mul_one]
    congr 1
    have h1 : j < (ints xs).length := by rw [ints_len]; exact hj
    have h2 : ints (xs.set j a) = (ints xs).set j (.int .i64 a) := by simp [ints, List.map_set]
    rw [h2]
    have h3 : (ints xs).set j (.int .i64 a) ++ rest = (ints xs ++ rest).set j (.int .i64 a) := (List.set_append_left _ _ h1).symm
    rw [h3, List.set_eq_take_append_cons_drop, if_pos (by simp only [List.length_append]; omega)]
    simp
  rw [← e0]; exact h

/-- the comparison that the sort calls: by keys, and nothing is changed -/
def CmpOk (P : Program) (fid : FuncId) (pt : Value) (g : Nat) (f : Int → Int) (S : Int → Prop) (w : World) : Prop :=
  ∀ w', Keeps (· = g) w w' → ∀ a b, S a → S b → Calls P fid #[.int .i64 a, .int .i64 b, pt] w' fun e w'' => e = .returned (.int .i64 (f a - f b)) ∧ w' = w''
theorem CmpOk.keep {P : Program} {fid : FuncId} {pt : Value} {g : Nat} {f : Int → Int} {S : Int → Prop} {w w' : World} (h : CmpOk P fid pt g f S w) (hK : Keeps (· = g) w w') : CmpOk P fid pt g f S w' := fun w2 h2 => h w2 (hK.trans h2)

section
variable {P : Program} {n : Nat} {Q : Exit → Fr → World → Prop} {φ : Fr} {w : World} {ops : Array Oper} {o : Oper} {v : Value} {S : Array Bool → World → Prop} {fuel i : Nat} {L : Array Bool} {d : Option Tmp} {ty : TypeId} {ps : String} {af : Array Edge} {g : Option (Nat × Bool)}
theorem X_cmp {f : FuncId} {x x1 x2 : Operand} {v1 v2 pt : Value} {ts : Array TypeId} (hx : ev φ x = .func (.func f) #[] #[pt]) (he : ∀ args w, (callFunc f args).run P w = .ok (.enter f args) w) (h1 : ev φ x1 = v1) (h2 : ev φ x2 = v2) :
    (execOp (ev φ) ⟨d, .call ⟨.value x, #[x1, x2], ts⟩, ty, ps, af, g⟩).run P w = .ok (.enter f #[v1, v2, pt]) w := by
  subst h1; subst h2
  exact X_call hx he (by simp)

theorem RS.gpure {j dg : Nat} {want q : Bool} {oj : Oper} {f : FuncId} {args : Array Value} {val : Value} (hr : (Region.ready .any ops L).contains i = true) (hc : Closed .any ops L) (hi : ops[i]? = some o)
    (hg : o.guard = some (j, want)) (hj : ops[j]? = some oj) (hjd : oj.dst = some dg) (hv : φ dg = .bool q) {dd : Nat} (hd : Dst n o.dst dd)
    (hx : (q == want) = true → (execOp (ev φ) o).run P w = .ok (.enter f args) w) (hC : (q == want) = true → Calls P f args w fun e w' => e = .returned val ∧ w = w') (hS' : S (L.setIfInBounds i true) w)
    (h : Closed .any ops (L.setIfInBounds i true) → S (L.setIfInBounds i true) w → RD P n ops S Q fuel (L.setIfInBounds i true) (upd φ dd (gb (q == want) val)) w) : RS P n ops S Q fuel L φ w i := by
  refine RS.gcall hr hc hi hg hj hjd hv hd (fun hq => ⟨hS', fun hcl => ?_⟩) hx hC (fun hq hcl e w' hR => ⟨val, hR.1, hR.2 ▸ hS', ?_⟩)
  · have := h hcl hS'
    rw [hq] at this
    exact this
  · have := h hcl hS'
    rw [hq] at this
    exact hR.2 ▸ this
theorem SK.same {w0 : World} (hS : SK w0 L w) : SK w0 (L.setIfInBounds i true) w := ⟨hS.1, by simp⟩
end
end Go.Hw
