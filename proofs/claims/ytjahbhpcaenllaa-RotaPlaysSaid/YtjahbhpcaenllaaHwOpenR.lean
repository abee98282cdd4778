/- The arguments of RotaPlays, opened. -/
import Derived.Test.YtjahbhpcaenllaaHwOpen2
import Derived.Test.YtjahbhpcaenllaaHwTypes
import Derived.Test.YtjahbhpcaenllaaHwMd
namespace Go.Proofs
open Go.RowKit Go.Hw Go.ChangeShapes Go.WideShapes Go.Deep Md
theorem Try.cells3 : Try.prog.cellsOf 3 = 1 := by kernel_rfl
theorem Try.cells4 : Try.prog.cellsOf 4 = 1 := by kernel_rfl
theorem Try.cells64 : Try.prog.cellsOf 64 = 2 := by kernel_rfl
theorem Try.cells66 : Try.prog.cellsOf 66 = 5 := by kernel_rfl
theorem Try.cells72 : Try.prog.cellsOf 72 = 4 := by kernel_rfl
section
variable {H : Type} {enc : TypeId × Value → H} {w : World} {base : Nat} {spare : Nat → Bool} {held : Bool}
set_option maxRecDepth 20000 in
theorem open_64 (n : Nat) (cs : List Value) (z : DataW H × List MemPlace) (h : DataW.trod enc Try.prog w base spare held n 64 cs = some z) : ∃ x : Span, cs = Span.E x := by
  obtain ⟨xs, n', _, _, hl, hlen, hf⟩ := DataW.trod_struct Try.underlying64 h
  match cs, xs, hl.trans Try.cells64, hlen with
  | [c0, c1], [y0, y1], _, _ =>
    have h0 : DataW.trod enc Try.prog w base spare held n' 3 [c0] = some y0 := by simpa [Try.cells3] using hf 0 _ rfl
    obtain ⟨z0, e0⟩ := one_of Try.underlying3 h0
    have h1 : DataW.trod enc Try.prog w base spare held n' 3 [c1] = some y1 := by simpa [Try.cells3] using hf 1 _ rfl
    obtain ⟨z1, e1⟩ := one_of Try.underlying3 h1
    cases e0; cases e1
    exact ⟨Span.mk z0 z1, rfl⟩
set_option maxRecDepth 20000 in
theorem open_72 (n : Nat) (cs : List Value) (z : DataW H × List MemPlace) (h : DataW.trod enc Try.prog w base spare held n 72 cs = some z) : ∃ x : Law68_Op, cs = Law68_Op.E x := by
  obtain ⟨xs, n', _, _, hl, hlen, hf⟩ := DataW.trod_struct Try.underlying72 h
  match cs, xs, hl.trans Try.cells72, hlen with
  | [c0, c1, c2, c3], [y0, y1, y2], _, _ =>
    have h0 : DataW.trod enc Try.prog w base spare held n' 4 [c0] = some y0 := by simpa [Try.cells4] using hf 0 _ rfl
    obtain ⟨z0, e0, _⟩ := DataW.trod_bool Try.underlying4 h0
    have h1 : DataW.trod enc Try.prog w base spare held n' 3 [c1] = some y1 := by simpa [Try.cells3] using hf 1 _ rfl
    obtain ⟨z1, e1⟩ := one_of Try.underlying3 h1
    have h2 : DataW.trod enc Try.prog w base spare held n' 64 [c2, c3] = some y2 := by simpa [Try.cells64] using hf 2 _ rfl
    obtain ⟨z2, e2'⟩ := open_64 _ _ _ h2
    have e2 : [c2, c3] = [.int .i64 z2.From, .int .i64 z2.To] := e2'
    cases e0; cases e1; cases e2
    exact ⟨Law68_Op.mk z0 z1 z2, rfl⟩
set_option maxRecDepth 20000 in
theorem open_66 (n : Nat) (cs : List Value) (z : DataW H × List MemPlace) (h : DataW.trod enc Try.prog w base spare held n 66 cs = some z) : ∃ x : Law68_At, cs = Law68_At.E x := by
  obtain ⟨xs, n', _, _, hl, hlen, hf⟩ := DataW.trod_struct Try.underlying66 h
  match cs, xs, hl.trans Try.cells66, hlen with
  | [c0, c1, c2, c3, c4], [y0, y1, y2, y3], _, _ =>
    have h0 : DataW.trod enc Try.prog w base spare held n' 3 [c0] = some y0 := by simpa [Try.cells3] using hf 0 _ rfl
    obtain ⟨z0, e0⟩ := one_of Try.underlying3 h0
    have h1 : DataW.trod enc Try.prog w base spare held n' 3 [c1] = some y1 := by simpa [Try.cells3] using hf 1 _ rfl
    obtain ⟨z1, e1⟩ := one_of Try.underlying3 h1
    have h2 : DataW.trod enc Try.prog w base spare held n' 3 [c2] = some y2 := by simpa [Try.cells3] using hf 2 _ rfl
    obtain ⟨z2, e2⟩ := one_of Try.underlying3 h2
    have h3 : DataW.trod enc Try.prog w base spare held n' 64 [c3, c4] = some y3 := by simpa [Try.cells64] using hf 3 _ rfl
    obtain ⟨z3, e3'⟩ := open_64 _ _ _ h3
    have e3 : [c3, c4] = [.int .i64 z3.From, .int .i64 z3.To] := e3'
    cases e0; cases e1; cases e2; cases e3
    exact ⟨Law68_At.mk z0 z1 z2 z3, rfl⟩
end

end Go.Proofs
