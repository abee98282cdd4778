/- slices.SortFunc at structs, as a step over the pieces. -/
import Derived.Test.YtjahbhpcaenllaaHwSortF
import Derived.Shelf.SlSortCmp.NoneTotal
namespace Go.Hw
open Go Go.Sort Go.Shelf Go.Proofs Go.Lib

section
variable {α : Type} [Inhabited α]
/-- a row as the library sorts it -/
def sortL (cf : α → α → Int) (l : List α) : List α := (pdq (ltOf cf) l.toArray 0 l.toArray.size (Lib.bitLen l.toArray.size) true true).toList
theorem sortL_spec (cf : α → α → Int) (hO : SWO (ltOf cf)) (l : List α) : PermIn 0 l.toArray.size l.toArray (pdq (ltOf cf) l.toArray 0 l.toArray.size (Lib.bitLen l.toArray.size) true true) ∧ SortedIn (ltOf cf) 0 l.toArray.size (pdq (ltOf cf) l.toArray 0 l.toArray.size (Lib.bitLen l.toArray.size) true true) :=
  pdq_sorts (ltOf cf) hO l.toArray 0 l.toArray.size (Lib.bitLen l.toArray.size) true true (Nat.zero_le _) (Nat.le_refl _) (Or.inl rfl)
theorem sortL_size (cf : α → α → Int) (hO : SWO (ltOf cf)) (l : List α) : (pdq (ltOf cf) l.toArray 0 l.toArray.size (Lib.bitLen l.toArray.size) true true).size = l.length := by
  have := (sortL_spec cf hO l).1.1; simpa using this
theorem sortL_len (cf : α → α → Int) (hO : SWO (ltOf cf)) (l : List α) : (sortL cf l).length = l.length := by
  unfold sortL; rw [Array.length_toList]; exact sortL_size cf hO l
theorem sortL_perm (cf : α → α → Int) (hO : SWO (ltOf cf)) (l : List α) : (sortL cf l).Perm l := by
  have h := (sortL_spec cf hO l).1
  have hs := sortL_size cf hO l
  have := h.2.2
  rw [Array.toList_extract, Array.toList_extract] at this
  simp only [List.extract_eq_take_drop, Nat.sub_zero, List.drop_zero] at this
  rw [List.take_of_length_le (by rw [Array.length_toList, hs]; simp), List.take_of_length_le (by simp)] at this
  simpa [sortL] using this
theorem sortL_sorted (cf : α → α → Int) (hO : SWO (ltOf cf)) (l : List α) : (sortL cf l).Pairwise fun x y => ¬ cf y x < 0 := by
  have h := (sortL_spec cf hO l).2
  have hs := sortL_size cf hO l
  unfold sortL
  generalize pdq (ltOf cf) l.toArray 0 l.toArray.size (Lib.bitLen l.toArray.size) true true = D at h hs ⊢
  refine List.pairwise_iff_getElem.2 fun i j hi hj hij => ?_
  rw [Array.length_toList] at hi hj
  have h1 := h i j (Nat.zero_le _) hij (by rw [List.size_toArray, ← hs]; exact hj)
  rw [getElem!_pos D j hj, getElem!_pos D i hi] at h1
  unfold ltOf at h1
  simpa using h1

variable {P : Program} {ρ : Ren} {w : World} {e s c : Nat} {A : Option Addr} {l : List α} {E : α → List Value}
theorem sortFunc_calls (L : SlLaysF0.n6 P ρ) (aE : ∀ w, (isAgg (ρ.t 24)).run P w = .ok true w) (zE : ∀ w, (Go.sizeOf (ρ.t 24)).run P w = .ok (s + 1) w) (hE : Enc E s) (cf : α → α → Int) (hO : SWO (ltOf cf)) (g : Nat) (cb : Array Value)
    (eg : ∀ args w, (callFunc g args).run P w = .ok (.enter g args) w) (hcmp : ∀ blk off size w, CmpLays P g cb E (s + 1) cf blk off size w) (ho : OwnA w e (s + 1) A c l E) (hf : fits l.length) :
    Calls P (ρ.f 6) #[.slice A l.length c, .func (.func g) #[] cb] w fun r w' => r = .returned (.tuple #[]) ∧ Keeps (inBlk A) w w' ∧ OwnA w' e (s + 1) A c (sortL cf l) E := by
  have hex : ∀ x, ∀ v ∈ E x, v.oneCell' = true := fun x v hv => List.all_eq_true.1 (hE.one x) v hv
  rcases ho.2 with ⟨hA, hc, hl⟩ | ⟨gg, o, cur, hA, hg, hn, hm, hs, ht⟩
  · subst hA; subst hc; subst hl
    refine (AnyF.slices_SortFunc_none { L with } none 0 (.func (.func g) #[] cb) w).mono fun r w' ⟨h1, h2⟩ => ?_
    subst h2
    have h0 : sortL cf ([] : List α) = [] := List.eq_nil_of_length_eq_zero (by rw [sortL_len cf hO]; rfl)
    rw [h0]
    exact ⟨h1, Keeps.refl _ _, OwnA.nil _ _ _ _⟩
  · subst hA
    have hsz : l.toArray.size < 4611686018427387904 := by unfold fits at hf; simp only [List.size_toArray]; omega
    have h := AnyQ.slices_SortFunc_eq L (s + 1) aE zE E hE.len hex cf hO g cb gg o c l.toArray w eg (hcmp gg o _ w) (ho.holdsK hE) hg.lt hsz
    rw [show (#[.slice (some ⟨gg, o, none⟩) l.toArray.size c, .func (.func g) #[] cb] : Array Value) = #[.slice (some ⟨gg, o, none⟩) l.length c, .func (.func g) #[] cb] by rw [List.size_toArray]] at h
    refine h.mono fun r w' ⟨h1, n, os, h2⟩ => ?_
    subst h2
    have := sort_own hE ho _ (sortL_size cf hO l) n os
    exact ⟨h1, this.1, this.2⟩
end
end Go.Hw
