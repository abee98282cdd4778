/- Arguments opened to rows. -/
import Derived.Test.YtjahbhpcaenllaaHwObj
import Derived.Deep.Slices
import Derived.Deep.Fields
import Derived.ChangeSame
import Derived.Below
namespace Go.Hw
open Go Go.ChangeShapes Go.WideShapes Go.Deep Go.RowKit

theorem exists_list {α : Type} {p : Nat → α → Prop} : ∀ {n : Nat}, (∀ i, i < n → ∃ x, p i x) → ∃ l : List α, l.length = n ∧ ∀ i (h : i < l.length), p i l[i]
  | 0, _ => ⟨[], rfl, fun i h => by simp at h⟩
  | n + 1, h => by
    obtain ⟨l, hl, hp⟩ := exists_list (n := n) fun i hi => h i (by omega)
    obtain ⟨x, hx⟩ := h n (by omega)
    refine ⟨l ++ [x], by simp [hl], fun i hi => ?_⟩
    rcases Nat.lt_or_ge i l.length with h1 | h1
    · rw [List.getElem_append_left h1]; exact hp i h1
    · have : i = l.length := by simp at hi; omega
      subst this
      simp [hl, hx]

section
variable {H : Type} {enc : TypeId × Value → H} {P : Program} {w : World} {base : Nat} {spare : Nat → Bool} {held : Bool}
theorem row_of {α : Type} {f : α → List Value} {s : Nat} (hs : ∀ x, (f x).length = s + 1) {a : Addr} {l : List α} (h : ∀ i (h : i < l.length), ∀ j u, (f l[i])[j]? = some u → w.cell? (a.add (i * (s + 1) + j)) = some u) : Row w (some a) (l.flatMap f) := by
  rcases Nat.eq_zero_or_pos l.length with h0 | h0
  · left; rw [List.eq_nil_of_length_eq_zero h0]; rfl
  · right
    have hsp : a.spot = none := by
      have hj : 0 < (f l[0]).length := by rw [hs]; omega
      have := h 0 h0 0 _ (List.getElem?_eq_getElem hj)
      simpa [Addr.add] using World.cell?_spot this
    obtain ⟨b, o, sp⟩ := a
    simp only at hsp
    subst hsp
    refine ⟨b, o, rfl, fun j u hu => ?_⟩
    have hjl : j < l.length * (s + 1) := by
      rcases Nat.lt_or_ge j (l.length * (s + 1)) with h1 | h1
      · exact h1
      · rw [List.getElem?_eq_none (by rw [flat_len f (s + 1) hs]; exact h1)] at hu; cases hu
    have hi : j / (s + 1) < l.length := (Nat.div_lt_iff_lt_mul (by omega)).2 hjl
    have hr : j % (s + 1) < s + 1 := Nat.mod_lt _ (by omega)
    have hj : j / (s + 1) * (s + 1) + j % (s + 1) = j := by rw [Nat.mul_comm]; exact Nat.div_add_mod j (s + 1)
    rw [← hj, flat_get f (s + 1) hs l _ _ hi hr] at hu
    have := h _ hi _ u hu
    rw [hj] at this
    have e : (⟨b, o, none⟩ : Addr).add j = ⟨b, o + j, none⟩ := by
      unfold Addr.add; split
      · rename_i h; rw [h]; rfl
      · rfl
    rw [e] at this; exact this

theorem open_rows {α : Type} {f : α → List Value} {s : Nat} (hs : ∀ x, (f x).length = s + 1) {t e : TypeId} {fuel : Nat} {cs : List Value} {x : DataW H × List MemPlace} (ht : P.underlying t = some (.slice e)) (hC : P.cellsOf e = s + 1)
    (ho : ∀ n cs' z, DataW.trod enc P w base spare held n e cs' = some z → ∃ y, cs' = f y) (h : DataW.trod enc P w base spare held fuel t cs = some x) :
    ∃ (A : Option Addr) (cap : Nat) (l : List α), cs = [.slice A l.length cap] ∧ SL w A cap l f := by
  rcases open_slice ht h with ⟨h0, _⟩ | ⟨a, len, cap, m, n, D, Pl, hcs, hb, hl, hm, hmm, hx, hi⟩
  · exact ⟨none, 0, [], h0, SL.nil⟩
  · have hlm : len ≤ m := by rw [hmm]; split <;> omega
    obtain ⟨l, hln, hp⟩ := exists_list (n := len) (p := fun i y => ∀ j u, (f y)[j]? = some u → w.cell? (a.add (i * (s + 1) + j)) = some u) (fun i hlt => by
      obtain ⟨cs', hc, ht'⟩ := hi i (by omega)
      obtain ⟨y, rfl⟩ := ho _ _ _ ht'
      rw [hC] at hc
      obtain ⟨_, hcl, hat⟩ := World.cells?_some hc
      refine ⟨y, fun j u hu => ?_⟩
      have hj : j < s + 1 := by
        rcases Nat.lt_or_ge j (s + 1) with h1 | h1
        · exact h1
        · rw [List.getElem?_eq_none (by rw [hs]; exact h1)] at hu; cases hu
      rw [← Go.Deep.add_add, hat j hj, hu])
    refine ⟨some a, cap, l, by rw [hcs, hln], row_of hs hp, by omega⟩

/-- behind a call that keeps all that was there: the row's last step, for any program -/
theorem post_new {f : Func} {s : ChangeSpec} {apart fresh handsOn : Bool} {W W' : World} {args : Array Value} {v : Value} {ds : List (DataW H)} {before : List MemPlace} (hv : s.vars = [])
    (hW : DataW.Whole enc P f.params.toList s.vars apart W args.toList ds [] before)
    (hres : ∀ (b : Nat) (sp : Nat → Bool) (hd : Bool), DataW.TrodAll enc P W' b sp hd f.resultTypes.toList (v.resultList f.resultTypes.size) (s.fn H (ds ++ [])).results [])
    (hargs : DataW.TrodAll enc P W' 0 (fun b => decide (b < W.heap.size)) true f.params.toList args.toList (s.fn H (ds ++ [])).args before)
    (hvs : (s.fn H (ds ++ [])).vars = []) (hb : Below W.heap.size W W') :
    s.post enc P f apart fresh handsOn false W args v W' := by
  refine ⟨ds, [], before, [], before, [], hW, hres _ _ _, hargs, ?_, World.keptBut_mono (fun p hp => ⟨hp, ?_⟩) (hb.frame (· ∈ before)), fun h => by cases h⟩
  · rw [hv, hvs]; rfl
  · exact Or.inr (by simpa using hp)

/-- the ints of a struct -/
theorem one_of {t : TypeId} {k : IntKind} {n : Nat} {cs : List Value} {y : DataW H × List MemPlace} (ht : P.underlying t = some (.int k)) (h : DataW.trod enc P w base spare held n t cs = some y) : ∃ z, cs = [.int k z] := by
  obtain ⟨z, h1, _⟩ := DataW.trod_int ht h
  exact ⟨z, h1⟩
end
end Go.Hw
