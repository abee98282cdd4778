/- Comparisons by one number: a strict weak order. -/
import Derived.Test.YtjahbhpcaenllaaHwMd
import Derived.Test.YtjahbhpcaenllaaHwSortG
namespace Md
open Go Go.Hw Go.Sort Go.Proofs
theorem lt_by {α : Type} (f : α → Int) (x y : α) : ltOf (fun x y : α => Lib.compareInt (f x) (f y)) x y = decide (f x < f y) := by
  unfold ltOf Lib.compareInt
  by_cases h1 : f x < f y
  · simp [h1]
  · by_cases h2 : f y < f x <;> simp [h1, h2]
theorem swo_by {α : Type} (f : α → Int) : SWO (ltOf fun x y : α => Lib.compareInt (f x) (f y)) where
  irrefl x := by rw [lt_by]; simp
  trans x y z h1 h2 := by rw [lt_by] at *; simp at *; omega
  ntrans x y z h1 h2 := by rw [lt_by] at *; simp at *; omega
theorem not_lt_by {α : Type} (f : α → Int) (x y : α) : (¬ Lib.compareInt (f x) (f y) < 0) ↔ f y ≤ f x := by
  have := lt_by f x y
  unfold ltOf at this
  have h : decide (Lib.compareInt (f x) (f y) < 0) = decide (f x < f y) := this
  by_cases h1 : f x < f y
  · simp [h1] at h; omega
  · simp [h1] at h; omega
def cmpFrom (a b : Span) : Int := Lib.compareInt a.From b.From
theorem cmpFrom_swo : SWO (ltOf cmpFrom) := swo_by Span.From
theorem sort_cmpFrom_len (l : List Span) : (sortL cmpFrom l).length = l.length := sortL_len _ cmpFrom_swo l
def cmpWid (a b : Waiter) : Int := Lib.compareInt a.Id b.Id
theorem cmpWid_swo : SWO (ltOf cmpWid) := swo_by Waiter.Id
theorem sort_cmpWid_len (l : List Waiter) : (sortL cmpWid l).length = l.length := sortL_len _ cmpWid_swo l
end Md
