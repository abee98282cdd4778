/- The law's arguments, opened. -/
import Derived.Test.YtjahbhpcaenllaaHwOpen
import Derived.Test.YtjahbhpcaenllaaHwTypes
namespace Go.Proofs
open Go.RowKit Go.Hw Go.ChangeShapes Go.WideShapes Go.Deep

theorem Try.cells3 : Try.prog.cellsOf 3 = 1 := by kernel_rfl
theorem Try.cells4 : Try.prog.cellsOf 4 = 1 := by kernel_rfl
theorem Try.cells22 : Try.prog.cellsOf 22 = 1 := by kernel_rfl
theorem Try.cells23 : Try.prog.cellsOf 23 = 1 := by kernel_rfl
theorem Try.cells34 : Try.prog.cellsOf 34 = 1 := by kernel_rfl
theorem Try.cells29 : Try.prog.cellsOf 29 = 7 := by kernel_rfl
theorem Try.cells103 : Try.prog.cellsOf 103 = 4 := by kernel_rfl
theorem Try.cells25 : Try.prog.cellsOf 25 = 3 := by kernel_rfl

section
variable {H : Type} {enc : TypeId × Value → H} {w : World} {base : Nat} {spare : Nat → Bool} {held : Bool}
set_option maxRecDepth 20000 in
theorem open_trip (n : Nat) (cs : List Value) (z : DataW H × List MemPlace) (h : DataW.trod enc Try.prog w base spare held n 29 cs = some z) : ∃ t : Trip, cs = t.enc := by
  obtain ⟨xs, n', _, _, hl, hlen, hf⟩ := DataW.trod_struct Try.underlying29 h
  match cs, xs, hl.trans Try.cells29, hlen with
  | [c0, c1, c2, c3, c4, c5, c6], [y0, y1, y2, y3, y4, y5, y6], _, _ =>
    obtain ⟨z0, e0⟩ := one_of Try.underlying3 (by simpa [Try.cells3] using hf 0 _ rfl)
    obtain ⟨z1, e1⟩ := one_of Try.underlying3 (by simpa [Try.cells3] using hf 1 _ rfl)
    obtain ⟨z2, e2⟩ := one_of Try.underlying3 (by simpa [Try.cells3] using hf 2 _ rfl)
    obtain ⟨z3, e3⟩ := one_of Try.underlying3 (by simpa [Try.cells3] using hf 3 _ rfl)
    obtain ⟨z4, e4⟩ := one_of Try.underlying3 (by simpa [Try.cells3] using hf 4 _ rfl)
    obtain ⟨z5, e5⟩ := one_of Try.underlying3 (by simpa [Try.cells3] using hf 5 _ rfl)
    obtain ⟨z6, e6⟩ := one_of Try.underlying3 (by simpa [Try.cells3] using hf 6 _ rfl)
    cases e0; cases e1; cases e2; cases e3; cases e4; cases e5; cases e6
    exact ⟨⟨z0, z1, z2, z3, z4, z5, z6⟩, rfl⟩
set_option maxRecDepth 20000 in
theorem open_leg (n : Nat) (cs : List Value) (z : DataW H × List MemPlace) (h : DataW.trod enc Try.prog w base spare held n 103 cs = some z) : ∃ t : Leg, cs = t.enc := by
  obtain ⟨xs, n', _, _, hl, hlen, hf⟩ := DataW.trod_struct Try.underlying103 h
  match cs, xs, hl.trans Try.cells103, hlen with
  | [c0, c1, c2, c3], [y0, y1, y2, y3], _, _ =>
    obtain ⟨z0, e0⟩ := one_of Try.underlying3 (by simpa [Try.cells3] using hf 0 _ rfl)
    obtain ⟨z1, e1⟩ := one_of Try.underlying3 (by simpa [Try.cells3] using hf 1 _ rfl)
    obtain ⟨z2, e2⟩ := one_of Try.underlying3 (by simpa [Try.cells3] using hf 2 _ rfl)
    have h3 : DataW.trod enc Try.prog w base spare held n' 4 [c3] = some y3 := by simpa [Try.cells4] using hf 3 _ rfl
    obtain ⟨b, e3, _⟩ := DataW.trod_bool Try.underlying4 h3
    cases e0; cases e1; cases e2; cases e3
    exact ⟨⟨z0, z1, z2, b⟩, rfl⟩
theorem open_legs {fuel : Nat} {cs : List Value} {x : DataW H × List MemPlace} (h : DataW.trod enc Try.prog w base spare held fuel 23 cs = some x) :
    ∃ (A : Option Addr) (cap : Nat) (ls : List (List Leg)) (hs : List Value), cs = [.slice A ls.length cap] ∧ LegsAt w A ls hs ∧ ls.length ≤ maxLen := by
  obtain ⟨A, cap, l, hcs, hrow, hlm⟩ := open_rows (f := fun p : (List Leg × Option Addr × Nat) × {v : Value // ∃ n z, DataW.trod enc Try.prog w base spare held n 34 [v] = some z} => [p.2.1]) (s := 0) (fun _ => rfl) Try.underlying23 Try.cells34 (fun n cs' z h => by
    obtain ⟨A, c, l, e, _⟩ := open_rows (f := Leg.enc) (s := 3) (fun _ => rfl) Try.underlying34 Try.cells103 open_leg h
    subst e
    exact ⟨(([], none, 0), ⟨_, n, z, h⟩), rfl⟩) h
  have hex : ∀ i (hi : i < l.length), ∃ q : List Leg × Option Addr × Nat, l[i].2.1 = .slice q.2.1 q.1.length q.2.2 ∧ Row w q.2.1 (q.1.flatMap Leg.enc) := fun i hi => by
    obtain ⟨n, z, h⟩ := l[i].2.2
    obtain ⟨A, c, k, e, hr, _⟩ := open_rows (f := Leg.enc) (s := 3) (fun _ => rfl) Try.underlying34 Try.cells103 open_leg h
    exact ⟨(k, A, c), by simpa using e, hr⟩
  obtain ⟨qs, hql, hq⟩ := exists_list (n := l.length) (p := fun i (q : List Leg × Option Addr × Nat) => ∃ h : i < l.length, l[i].2.1 = .slice q.2.1 q.1.length q.2.2 ∧ Row w q.2.1 (q.1.flatMap Leg.enc)) (fun i hi => by
    obtain ⟨q, h1, h2⟩ := hex i hi
    exact ⟨q, hi, h1, h2⟩)
  refine ⟨A, cap, qs.map (·.1), l.map (·.2.1), by rw [hcs, List.length_map, hql], ⟨?_, by simp [hql], fun i hi => ?_⟩, by simp [hql]; exact hlm⟩
  · have : (l.map (·.2.1)).map id = l.flatMap fun p => [p.2.1] := by rw [List.map_id, List.map_eq_flatMap]
    rw [this]; exact hrow
  · have hi' : i < qs.length := by simpa using hi
    obtain ⟨h1, h2, h3⟩ := hq i hi'
    refine ⟨qs[i].2.1, qs[i].2.2, ?_, ?_⟩
    · simp only [List.getElem_map, List.getElem?_map, List.getElem?_eq_getElem h1, Option.map_some, h2]
    · simpa using h3
end
end Go.Proofs
