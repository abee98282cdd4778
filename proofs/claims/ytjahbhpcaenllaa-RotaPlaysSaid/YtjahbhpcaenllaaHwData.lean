/- Rows of elements of several cells. -/
import Derived.Test.YtjahbhpcaenllaaHwMem
namespace Go.Hw
open Go

theorem upd_of {φ : Fr} {d : Nat} {v : Value} (h : φ d = v) : upd φ d v = φ := by subst h; exact upd_self φ d

theorem flat_len {α : Type} (enc : α → List Value) (s : Nat) (hs : ∀ x, (enc x).length = s) (l : List α) : (l.flatMap enc).length = l.length * s := by
  induction l with
  | nil => simp
  | cons x l ih => rw [List.flatMap_cons, List.length_append, ih, hs, List.length_cons, Nat.add_mul]; omega
theorem flat_get {α : Type} (enc : α → List Value) (s : Nat) (hs : ∀ x, (enc x).length = s) (l : List α) (i j : Nat) (hi : i < l.length) (hj : j < s) : (l.flatMap enc)[i * s + j]? = (enc l[i])[j]? := by
  induction l generalizing i with
  | nil => simp at hi
  | cons x l ih =>
    rw [List.flatMap_cons]
    cases i with
    | zero =>
      rw [List.getElem?_append_left (by rw [hs]; omega)]
      simp
    | succ i =>
      rw [List.getElem?_append_right (by rw [hs, Nat.add_mul]; omega)]
      rw [hs, show (i + 1) * s + j - s = i * s + j by rw [Nat.add_mul]; omega]
      exact ih i (by simpa using hi)

/-- a slice of elements: where there is one it lies at an address, its cells one behind the other -/
theorem Row.elem {w : World} {A : Option Addr} {α : Type} {enc : α → List Value} {l : List α} (s : Nat) (h : Row w A (l.flatMap enc)) (hs : ∀ x, (enc x).length = s + 1) {i : Nat} (hi : i < l.length) :
    ∃ b o, A = some ⟨b, o, none⟩ ∧ ∀ i (hi : i < l.length) j u, (enc l[i])[j]? = some u → w.cell? ⟨b, o + i * (s + 1) + j, none⟩ = some u := by
  obtain ⟨b, o, hA, hc⟩ := h.at_ (by
    intro h0
    have := congrArg List.length h0
    rw [flat_len enc (s + 1) hs, List.length_nil] at this
    have hp : 0 < l.length * (s + 1) := Nat.mul_pos (by omega) (by omega)
    exact absurd this (Nat.ne_of_gt hp))
  refine ⟨b, o, hA, fun i hi j u hu => ?_⟩
  rw [Nat.add_assoc]
  refine hc _ _ ?_
  have hj : j < s + 1 := by
    rcases Nat.lt_or_ge j (s + 1) with h | h
    · exact h
    · rw [List.getElem?_eq_none (by rw [hs]; exact h)] at hu; cases hu
  rw [flat_get enc (s + 1) hs l i j hi hj]
  exact hu
/-- elements of one cell -/
theorem Row.elem1 {w : World} {A : Option Addr} {α : Type} {f : α → Value} {l : List α} (h : Row w A (l.map f)) {i : Nat} (hi : i < l.length) :
    ∃ b o, A = some ⟨b, o, none⟩ ∧ ∀ i (hi : i < l.length), w.cell? ⟨b, o + i * 1, none⟩ = some (f l[i]) := by
  obtain ⟨b, o, hA, hc⟩ := h.at_ (by intro h0; have := congrArg List.length h0; rw [List.length_map, List.length_nil] at this; omega)
  exact ⟨b, o, hA, fun i hi => by rw [Nat.mul_one]; exact hc i _ (by simp [hi])⟩

theorem At.cells0 {w : World} {g : Nat} {cs : List Value} {e : TypeId} {f : Nat × Nat} (h : At w g (.cells cs.toArray e f)) : ∀ j u, cs[j]? = some u → w.cell? ⟨g, 0 + j, none⟩ = some u := fun j u hu => by
  rw [Nat.zero_add, h.cell]; simpa using hu

section
variable {P : Program} {w : World}
theorem run_loadAgg {t : TypeId} {td : TypeDesc} {z : Value} {b bl o : Nat} (cs : List Value) (hu : P.underlying t = some td) (hd : aggB td = true) (hi : Inf P t z cs.length b)
    (hc : ∀ j u, cs[j]? = some u → w.cell? ⟨bl, o + j, none⟩ = some u) : (loadVar t ⟨bl, o, none⟩).run P w = .ok (.agg cs.toArray) w := by
  have h1 := run_isAgg (P := P) (t := t) hu w
  rw [hd] at h1
  have h2 : (loadCells ⟨bl, o, none⟩ cs.length).run P w = .ok cs.toArray w := run_loadCells_list w _ cs fun j u hj => by
    have : (⟨bl, o, none⟩ : Addr).add j = ⟨bl, o + j, none⟩ := by
      unfold Addr.add; split
      · rename_i h; rw [h]; rfl
      · rfl
    rw [this]; exact hc j u hj
  simp [loadVar, h1, hi.sizeOf, h2]
theorem ret2c {fn : Func} {R : Ending → World → Prop} {φ : Fr} {e : Exit} {t u : Tmp} {ty : TypeId} {td : TypeDesc} {z : Value} {b B : Nat} (cs : List Value) (he : e = .ret ∨ e = .normal) (hr : fn.results = #[.cell t ty, .tmp u]) (hb : φ t = .pointer (some ⟨B, 0, none⟩))
    (hu : P.underlying ty = some td) (hd : aggB td = true) (hi : Inf P ty z cs.length b) (hc : ∀ j u, cs[j]? = some u → w.cell? ⟨B, 0 + j, none⟩ = some u) (h : R (.returned (.tuple #[.agg cs.toArray, φ u])) w) : bodyQ P fn R e φ w := by
  have hl := run_loadAgg (w := w) cs hu hd hi hc
  refine retOf he (.tuple #[.agg cs.toArray, φ u]) (fun tmps e => by
    subst e
    have hb' : tmps[t]?.getD undef = .pointer (some ⟨B, 0, none⟩) := by simpa [frOf] using hb
    simp [results, hr, frOf, hb', asAddr, hl]) h
end

end Go.Hw
