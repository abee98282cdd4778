/- The program's data as plain structures, and how they lie in cells. -/
import Derived.Test.YtjahbhpcaenllaaHwDraw
namespace Go.Hw
open Go

structure Trip where
  (id arrive frm to car board alight : Int)
def Trip.enc (t : Trip) : List Value := [.int .i64 t.id, .int .i64 t.arrive, .int .i64 t.frm, .int .i64 t.to, .int .i64 t.car, .int .i64 t.board, .int .i64 t.alight]
structure Leg where
  (tick pos dir : Int)
  door : Bool
def Leg.enc (t : Leg) : List Value := [.int .i64 t.tick, .int .i64 t.pos, .int .i64 t.dir, .bool t.door]

/-- a row of numbers -/
def ints (l : List Int) : List Value := l.map (Value.int .i64)
theorem ints_append (a b : List Int) : ints (a ++ b) = ints a ++ ints b := List.map_append

theorem ints_one (l : List Int) : ∀ u ∈ ints l, u.oneCell' = true := fun u hu => by
  obtain ⟨x, _, rfl⟩ := List.mem_map.1 hu
  rfl
theorem ints_len (l : List Int) : (ints l).length = l.length := List.length_map _

theorem or_f {a b : Bool} (h : (bif a then true else b) = false) : a = false ∧ b = false := by cases a <;> simp at h ⊢; exact h
theorem and_f {a b : Bool} (h : (bif a then b else false) = false) : a = false ∨ b = false := by cases a <;> simp at h ⊢; exact h

end Go.Hw
