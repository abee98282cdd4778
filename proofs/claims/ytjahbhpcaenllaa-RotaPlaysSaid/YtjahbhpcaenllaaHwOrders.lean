/- Regions that leave their order open, where a cell that is read is written later on: a condition on the world that may end with an operation. Plain theorems over the library's own 'wpOp', 'YieldsIf'. -/
import Derived.OrdersHeld
namespace Go.Hw
open Go

section
variable {P : Program} {ops : Array Oper} {Q : Exit → Act → World → Prop} {md : Region.Mode} {S : Array Bool → World → Prop}

/-- what has come up has come up behind all that it waits for -/
def Closed (md : Region.Mode) (ops : Array Oper) (L : Array Bool) : Prop :=
  L.size = ops.size ∧ ∀ j o, ops[j]? = some o → L.getD j false = true → ∀ e ∈ o.after, Region.binds md e = true → L.getD e.on false = true

/-- the worlds in which operation i may still be to come -/
def Until (md : Region.Mode) (ops : Array Oper) (S : Array Bool → World → Prop) (i : Nat) (w : World) : Prop :=
  ∃ L, Closed md ops L ∧ L.getD i true = false ∧ S L w

/-- whatever order is picked from here on; behind each operation the condition holds at what has come up by then -/
def AnyL (P : Program) (md : Region.Mode) (ops : Array Oper) (Q : Exit → Act → World → Prop) (S : Array Bool → World → Prop) : Nat → Array Bool → Act → World → Prop
  | 0, L, a, w => Region.ready md ops L = [] ∧ Q .normal a w
  | fuel + 1, L, a, w => (Region.ready md ops L = [] → Q .normal a w) ∧
    ∀ i ∈ Region.ready md ops L, wpOp P ops Q i (fun a' w' => S (L.setIfInBounds i true) w' ∧ AnyL P md ops Q S fuel (L.setIfInBounds i true) a' w') a w

theorem AnyL.any : ∀ (fuel : Nat) (L : Array Bool) (a : Act) (w : World), AnyL P md ops Q S fuel L a w → wpAny P md ops Q fuel L a w
  | 0, _, _, _, h => h
  | fuel + 1, _, _, _, h => ⟨h.1, fun i hi => wpOp_mono (fun a' w' k => AnyL.any fuel _ a' w' k.2) (h.2 i hi)⟩

theorem Closed.step {L : Array Bool} (h : Closed md ops L) {j : Nat} (hj : j ∈ Region.ready md ops L) : Closed md ops (L.setIfInBounds j true) := by
  obtain ⟨hs, hc⟩ := h
  refine ⟨by simpa using hs, fun k o ho hk e he hb => ?_⟩
  obtain ⟨_, oj, hoj, hall⟩ := mem_ready.1 hj
  by_cases hkj : k = j
  · subst hkj
    rw [hoj] at ho
    cases ho
    exact getD_set_true (hall e he hb)
  · rw [getD_set_ne false (Ne.symm hkj)] at hk
    exact getD_set_true (hc k o ho hk e he hb)

theorem Closed.start : Closed md ops (Array.replicate ops.size false) := by
  refine ⟨by simp, fun j o _ hj => ?_⟩
  simp only [Array.getD_eq_getD_getElem?, Array.getElem?_replicate] at hj
  split at hj <;> cases hj

theorem AnyL.first {i : Nat} {oi : Oper} {v : Value} (hi : ops[i]? = some oi) (hsel : ∀ (j : Nat) (o : Oper) cs b, ops[j]? = some o → o.op ≠ .select cs b)
    (hQ : ∀ c a w, Q (.panic c) (a.put oi.dst v) w → Q (.panic c) a w)
    (hS : ∀ L w, L.getD i true = false → S (L.setIfInBounds i true) w → S L w) (hS' : ∀ L w, L.getD i true = false → S L w → S (L.setIfInBounds i true) w) :
    ∀ (fuel : Nat) (L : Array Bool) (a : Act) (w : World), Closed md ops L →
      (∀ j oj, ops[j]? = some oj → j ≠ i → L.getD j true = false → (∀ e ∈ oj.after, Region.binds md e = true → e.on ≠ i) → oi.apart ops oj = true) →
      i ∈ Region.ready md ops L → YieldsIf P ops (Until md ops S i) oi v a → S L w →
      AnyL P md ops Q S fuel (L.setIfInBounds i true) (a.put oi.dst v) w → AnyL P md ops Q S (fuel + 1) L a w := by
  intro fuel
  induction fuel with
  | zero =>
    intro L a w hcl hfree hr hy hw H
    have hun := (mem_ready.1 hr).1
    refine ⟨fun h => (by rw [h] at hr; cases hr), fun j hj => ?_⟩
    by_cases hji : j = i
    · subst hji; exact hy.wpOp hi ⟨L, hcl, hun, hw⟩ ⟨hS' L w hun hw, H⟩
    · have := ready_mono hj hji
      rw [H.1] at this
      cases this
  | succ fuel ih =>
    intro L a w hcl hfree hr hy hw H
    have hun := (mem_ready.1 hr).1
    refine ⟨fun h => (by rw [h] at hr; cases hr), fun j hj => ?_⟩
    by_cases hji : j = i
    · subst hji; exact hy.wpOp hi ⟨L, hcl, hun, hw⟩ ⟨hS' L w hun hw, H⟩
    · have h1 := H.2 j (ready_mono hj hji)
      obtain ⟨hjun, oj, hoj, hall⟩ := mem_ready.1 hj
      have hiL : i < L.size := by
        rcases Nat.lt_or_ge i L.size with h | h
        · exact h
        · simp [Array.getElem?_eq_none h] at hun
      have hnot : ∀ e ∈ oj.after, Region.binds md e = true → e.on ≠ i := fun e he hb heq => by
        have h1 := hall e he hb
        rw [heq] at h1
        simp [hiL] at hun h1
        rw [hun] at h1; cases h1
      have h2 := wpOp_putIf hoj (hfree j oj hoj hji hjun hnot) (fun cs b => hsel i oi cs b hi) (fun cs b => hsel j oj cs b hoj) hQ hy h1
      have hcom : (L.setIfInBounds i true).setIfInBounds j true = (L.setIfInBounds j true).setIfInBounds i true := Array.setIfInBounds_comm _ _ (Ne.symm hji)
      have hunj : (L.setIfInBounds j true).getD i true = false := by rw [getD_set_ne true hji]; exact hun
      have hfree' : ∀ k ok, ops[k]? = some ok → k ≠ i → (L.setIfInBounds j true).getD k true = false →
          (∀ e ∈ ok.after, Region.binds md e = true → e.on ≠ i) → oi.apart ops ok = true := fun k ok hk hki hku hno => by
        refine hfree k ok hk hki ?_ hno
        by_cases hjk : j = k
        · subst hjk; exact hjun
        · rw [getD_set_ne true hjk] at hku; exact hku
      refine wpOp_mono (fun a' w' h3 => ?_) h2
      obtain ⟨hy', hSw, hrest⟩ := h3
      rw [hcom] at hSw hrest
      have hSj := hS _ _ hunj hSw
      exact ⟨hSj, ih (L.setIfInBounds j true) a' w' (hcl.step hj) hfree' (ready_mono hr (Ne.symm hji)) hy' hSj hrest⟩

/-- i comes ahead of k, by the edges -/
def ahead (md : Region.Mode) (ops : Array Oper) (i : Nat) : Nat → Nat → Bool
  | 0, _ => false
  | fuel + 1, k => ((ops[k]?).map fun o => o.after.any fun e => Region.binds md e && (e.on == i || ahead md ops i fuel e.on)).getD false

theorem ahead_spec {L : Array Bool} (h : Closed md ops L) {i : Nat} : ∀ fuel k, ahead md ops i fuel k = true → L.getD i true = false → L.getD k false = false
  | 0, _, h', _ => by simp [ahead] at h'
  | fuel + 1, k, h', hi => by
    unfold ahead at h'
    cases ho : ops[k]? with
    | none => simp [ho] at h'
    | some o =>
      simp only [ho, Option.map_some, Option.getD_some, Array.any_eq_true'] at h'
      obtain ⟨e, he, hbe⟩ := h'
      simp only [Bool.and_eq_true, Bool.or_eq_true, beq_iff_eq] at hbe
      cases hk : L.getD k false with
      | false => rfl
      | true =>
        have h1 := h.2 k o ho hk e he hbe.1
        rcases hbe.2 with heq | hrec
        · subst heq
          have hlt : e.on < L.size := by
            rcases Nat.lt_or_ge e.on L.size with h | h
            · exact h
            · simp [Array.getElem?_eq_none h] at hi
          simp [hlt] at hi h1
          rw [hi] at h1; cases h1
        · rw [ahead_spec h fuel _ hrec hi] at h1; cases h1

end
end Go.Hw
