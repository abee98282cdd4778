/- Maps as lists: what a map says after a store and a delete. -/
import Derived.Test.YtjahbhpcaenllaaHwMp
namespace Go.Hw
section
variable {K V : Type} [DecidableEq K]
theorem alook_aset : ∀ (l : List (K × V)) (k : K) (v : V) (j : K), alook (aset l k v) j = if k = j then some v else alook l j
  | [], k, v, j => by simp [aset, alook]
  | e :: l, k, v, j => by
    unfold aset
    by_cases h : e.1 = k
    · rw [if_pos h]
      simp only [alook]
      by_cases hj : k = j
      · simp [hj]
      · rw [if_neg hj, if_neg hj, if_neg (by rw [h]; exact hj)]
    · rw [if_neg h]
      simp only [alook]
      by_cases hj : e.1 = j
      · rw [if_pos hj, if_neg (by intro e'; exact h (hj.trans e'.symm)), if_pos hj]
      · rw [if_neg hj, if_neg hj]; exact alook_aset l k v j
theorem alook_none : ∀ {l : List (K × V)} {k : K}, k ∉ l.map (·.1) → alook l k = none
  | [], k, _ => rfl
  | e :: l, k, h => by
    simp only [List.map_cons, List.mem_cons, not_or] at h
    simp only [alook]
    rw [if_neg (fun e' => h.1 e'.symm)]; exact alook_none h.2
theorem adel_keys_sub : ∀ (l : List (K × V)) (k x : K), x ∈ (adel l k).map (·.1) → x ∈ l.map (·.1)
  | [], _, _, h => h
  | e :: l, k, x, h => by
    unfold adel at h
    split at h
    · exact List.mem_cons_of_mem _ h
    · simp only [List.map_cons, List.mem_cons] at h ⊢
      exact h.imp id (adel_keys_sub l k x)
theorem adel_nodup : ∀ {l : List (K × V)} (k : K), (l.map (·.1)).Nodup → ((adel l k).map (·.1)).Nodup
  | [], _, h => h
  | e :: l, k, h => by
    simp only [List.map_cons, List.nodup_cons] at h
    unfold adel
    split
    · exact h.2
    · simp only [List.map_cons, List.nodup_cons]
      exact ⟨fun hx => h.1 (adel_keys_sub l k _ hx), adel_nodup k h.2⟩
theorem alook_adel : ∀ {l : List (K × V)} (k j : K), (l.map (·.1)).Nodup → alook (adel l k) j = if k = j then none else alook l j
  | [], k, j, _ => by simp [adel, alook]
  | e :: l, k, j, h => by
    simp only [List.map_cons, List.nodup_cons] at h
    unfold adel
    by_cases hk : e.1 = k
    · rw [if_pos hk]
      by_cases hj : k = j
      · rw [if_pos hj]; refine alook_none ?_; rw [← hj, ← hk]; exact h.1
      · rw [if_neg hj]; simp only [alook]; rw [if_neg (by rw [hk]; exact hj)]
    · rw [if_neg hk]
      simp only [alook]
      by_cases hj : e.1 = j
      · rw [if_pos hj, if_pos hj, if_neg (by intro e'; exact hk (hj.trans e'.symm))]
      · rw [if_neg hj, if_neg hj]; exact alook_adel k j h.2
theorem aset_keys : ∀ (l : List (K × V)) (k : K) (v : V) (x : K), x ∈ (aset l k v).map (·.1) → x = k ∨ x ∈ l.map (·.1)
  | [], k, v, x, h => by simp [aset] at h; exact .inl h
  | e :: l, k, v, x, h => by
    unfold aset at h
    split at h
    · simp only [List.map_cons, List.mem_cons] at h ⊢
      exact h.imp id .inr
    · simp only [List.map_cons, List.mem_cons] at h ⊢
      rcases h with h | h
      · exact .inr (.inl h)
      · exact (aset_keys l k v x h).imp id .inr
theorem aset_nodup : ∀ {l : List (K × V)} (k : K) (v : V), (l.map (·.1)).Nodup → ((aset l k v).map (·.1)).Nodup
  | [], k, v, _ => by simp [aset]
  | e :: l, k, v, h => by
    simp only [List.map_cons, List.nodup_cons] at h
    unfold aset
    split
    · rename_i he
      simp only [List.map_cons, List.nodup_cons]
      exact ⟨by rw [← he]; exact h.1, h.2⟩
    · rename_i he
      simp only [List.map_cons, List.nodup_cons]
      refine ⟨fun hx => ?_, aset_nodup k v h.2⟩
      rcases aset_keys l k v _ hx with h' | h'
      · exact he h'
      · exact h.1 h'
/-- the keys of a map stand apart -/
def MNd (m : Mp K V) : Prop := ∀ l, m = some l → (l.map (·.1)).Nodup
omit [DecidableEq K] in
theorem MNd.none : MNd (none : Mp K V) := fun _ h => by cases h
omit [DecidableEq K] in
theorem MNd.new : MNd (mnew : Mp K V) := fun _ h => by cases h; simp
theorem MNd.set {m : Mp K V} (h : MNd m) (k : K) (v : V) : MNd (mset m k v) := fun l hl => by
  cases m with
  | none => cases hl
  | some a => cases hl; exact aset_nodup k v (h a rfl)
theorem MNd.del {m : Mp K V} (h : MNd m) (k : K) : MNd (mdel m k) := fun l hl => by
  cases m with
  | none => cases hl
  | some a => cases hl; exact adel_nodup k (h a rfl)
theorem mget_mset {m : Mp K V} (h : m.isSome = true) (k : K) (v : V) (j : K) : mget (mset m k v) j = if k = j then some v else mget m j := by
  cases m with
  | none => cases h
  | some a => exact alook_aset a k v j
theorem mget_mdel {m : Mp K V} (h : MNd m) (k j : K) : mget (mdel m k) j = if k = j then none else mget m j := by
  cases m with
  | none => simp [mget, mdel]
  | some a => exact alook_adel k j (h a rfl)
end
end Go.Hw
