/- A sort of a slice that is owned, over the library's contract of slices.SortFunc. -/
import Derived.Test.YtjahbhpcaenllaaHwObj
import Derived.Shelf.GgSortFunc.InsertionK
namespace Go.Hw
open Go Go.Sort Go.Shelf Go.Proofs

section
variable {α : Type} [Inhabited α] {w : World} {e s c blk off : Nat} {A : Option Addr} {l : List α} {E : α → List Value}

theorem flatK_list (hE : Enc E s) (d : Array α) : (flatK E (s + 1) d).toList = d.toList.flatMap E := by
  refine List.ext_getElem? fun j => ?_
  have hlen : (d.toList.flatMap E).length = d.size * (s + 1) := by rw [flat_len E (s + 1) hE.len]; simp
  rcases Nat.lt_or_ge j (d.size * (s + 1)) with hj | hj
  · have h0 : j / (s + 1) < d.size := (Nat.div_lt_iff_lt_mul (by omega)).2 hj
    have h1 : d.toList[j / (s + 1)]? = some d[j / (s + 1)]! := by
      rw [Array.getElem?_toList, Array.getElem?_eq_getElem h0, getElem!_pos d _ h0]
    have hr : j % (s + 1) < (E d[j / (s + 1)]!).length := by rw [hE.len]; exact Nat.mod_lt _ (by omega)
    have h2 := flat_at (fun x => hE.len x) h1 (j % (s + 1)) _ (List.getElem?_eq_getElem hr)
    have h3 : j / (s + 1) * (s + 1) + j % (s + 1) = j := by rw [Nat.mul_comm]; exact Nat.div_add_mod j (s + 1)
    rw [h3] at h2
    rw [h2, Array.getElem?_toList, Array.getElem?_eq_getElem (by simpa using hj)]
    have h4 := get_flatK E (s + 1) d j hj
    rw [getElem!_pos (flatK E (s + 1) d) j (by simpa using hj), getElem!_pos (E d[j / (s + 1)]!) _ hr] at h4
    rw [h4]
  · rw [List.getElem?_eq_none (by simpa using hj), List.getElem?_eq_none (by omega)]

theorem OwnA.holdsK (hE : Enc E s) (h : OwnA w e (s + 1) (some ⟨blk, off, none⟩) c l E) : HoldsK E (s + 1) w blk off l.toArray := by
  intro j hj
  rcases h.2 with ⟨h0, _⟩ | ⟨g, o, cur, h0, hg, hn, hm, hs, ht⟩
  · cases h0
  · cases h0
    have hjl : j < (l.flatMap E).length := by rw [flat_len E (s + 1) hE.len]; simpa using hj
    have hget : (flatK E (s + 1) l.toArray)[j]! = (l.flatMap E)[j] := by
      have := flatK_list hE l.toArray
      rw [List.toList_toArray] at this
      rw [getElem!_pos (flatK E (s + 1) l.toArray) j hj, ← Array.getElem_toList]
      simp only [this]
    refine ⟨?_, hg.frozen _⟩
    rcases h.row with h1 | ⟨b', o', hA, hc⟩
    · rw [h1] at hjl; simp at hjl
    · cases hA
      rw [hc j _ (List.getElem?_eq_getElem hjl)]
      exact congrArg some hget.symm

theorem sort_own (hE : Enc E s) (h : OwnA w e (s + 1) (some ⟨blk, off, none⟩) c l E) (d : Array α) (hd : d.size = l.length) (n : Nat) (os : Array Obj) :
    Keeps (inBlk (some ⟨blk, off, none⟩)) w (sortWorldK E (s + 1) w blk off n d os) ∧ OwnA (sortWorldK E (s + 1) w blk off n d os) e (s + 1) (some ⟨blk, off, none⟩) c d.toList E := by
  rcases h.2 with ⟨h0, _⟩ | ⟨g, o, cur, h0, hg, hn, hm, hs, ht⟩
  · cases h0
  · cases h0
    have hblk := hg.lt
    have hsz : (putRowK E (s + 1) (Sort.ahead w n) blk off d).heap.size = w.heap.size := size_putRow _ _ _ _ _
    have hget : ∀ k, k < w.heap.size → (sortWorldK E (s + 1) w blk off n d os).heap[k]? = (putRowK E (s + 1) (Sort.ahead w n) blk off d).heap[k]? := fun k hk => by
      unfold sortWorldK grow
      rw [Array.getElem?_append_left (by rw [hsz]; exact hk)]
    have hput : ∀ k, (putRowK E (s + 1) (Sort.ahead w n) blk off d).heap[k]? = if k = blk then some (.cells (putCells id off (flatK E (s + 1) d) cur) e (0, 0)) else w.heap[k]? := fun k => by
      unfold putRowK putRow mapBlock
      simp only [Array.getElem?_modify]
      by_cases hk : k = blk
      · subst hk
        have h1 : w.heap[k]? = some (.cells cur e (0, 0)) := hg
        have h2 : (Sort.ahead w n).heap[k]? = some (.cells cur e (0, 0)) := hg
        rw [h2]; simp [onCells]
      · have hk' : ¬ blk = k := fun e => hk e.symm
        simp [hk, hk', Sort.ahead]
    have hfs : (flatK E (s + 1) d).size = l.length * (s + 1) := by rw [size_flatK, hd]
    have hle : l.length * (s + 1) ≤ c * (s + 1) := Nat.mul_le_mul_right _ hn
    refine ⟨⟨rfl, rfl, rfl, ?_, fun k hk hne => ?_⟩, flat_len E (s + 1) hE.len _, .inr ⟨blk, off, _, rfl, (hget blk hblk).trans ((hput blk).trans (if_pos rfl)), by simpa [hd] using hn, hm, ?_, ?_⟩⟩
    · unfold sortWorldK grow
      simp only [Array.size_append]
      rw [hsz]; omega
    · rw [hget k hk, hput k, if_neg (fun e => hne ⟨_, rfl, e.symm⟩)]
    · simpa [putCells] using hs
    · refine List.ext_getElem? fun j => ?_
      have hl2 : d.toList.length * (s + 1) = l.length * (s + 1) := by simp [hd]
      rw [hl2, ← flatK_list hE d]
      rcases Nat.lt_or_ge j (l.length * (s + 1)) with hj | hj
      · rw [List.getElem?_take_of_lt hj, List.getElem?_drop, Array.getElem?_toList, Array.getElem?_toList]
        unfold putCells
        rw [Array.getElem?_mapIdx, Array.getElem?_eq_getElem (by omega), Array.getElem?_eq_getElem (by omega)]
        simp only [Option.map_some, id]
        rw [if_pos ⟨by omega, by omega⟩, Nat.add_sub_cancel_left, getElem!_pos _ j (by omega)]
      · rw [List.getElem?_eq_none (by simp; omega), List.getElem?_eq_none (by simp [hfs]; omega)]
end
end Go.Hw
