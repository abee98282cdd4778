/- The comparisons that this program hands to the library's sorts. -/
import Derived.Test.YtjahbhpcaenllaaHwCmp
import Derived.Test.YtjahbhpcaenllaaHwShelfA
namespace Go.Proofs
open Go.Shelf Go.RowKit Go.Lib Go.Sort Md Go.Hw
set_option maxHeartbeats 1000000 in
theorem Try.closure85 (x y : Span) (W : World) : Calls Try.prog 85 #[.agg #[.int .i64 x.From, .int .i64 x.To], .agg #[.int .i64 y.From, .int .i64 y.To]] W fun e w' => e = .returned (.int .i64 (Lib.compareInt x.From y.From)) ∧ ∃ q os', w' = grow (W.drewN q) os' := by
  have hcon := fun W' => AnyG.cmp_Compare_int Try.cmpInt x.From y.From W'
  change ∀ W', Calls Try.prog 78 _ _ _ at hcon
  generalize Lib.compareInt x.From y.From = r at hcon ⊢
  go_enter Try.func85, Try.ntmps85
  go_wp2_with (go_at_call 78; refine (hcon _).mono ?_; rintro e w' ⟨rfl, rfl⟩)
  go_ret
  exact ⟨rfl, 0, _, by rw [alloc_eq_grow, alloc_eq_grow, grow_grow]; rfl⟩
theorem Try.lays85 (blk off size : Nat) (w : World) : CmpLays Try.prog 85 #[] Span.E 2 cmpFrom blk off size w := fun _ _ _ _ x y => Try.closure85 x y _
end Go.Proofs
