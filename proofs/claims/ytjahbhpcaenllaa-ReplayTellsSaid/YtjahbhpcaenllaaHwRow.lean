/- Proved: for every log, car and tick the law ReplayTells returns true, and its arguments read afterwards as they read before. Its conditions: those of the given row, and no others. -/
import Derived.Test.YtjahbhpcaenllaaRows
import Derived.Test.YtjahbhpcaenllaaHwLaw
import Derived.Test.YtjahbhpcaenllaaHwOpenA
import Derived.ProofKit
import Derived.Carry
import Derived.Deep.Strs
namespace Go.Proofs.Ytjahbhpcaenllaa
open Go.ChangeShapes Go.WideShapes Go.ChangeAt Go.RowKit Go.Hw Go.Deep

theorem own : ownKnob Try.prog.godebug = none := by kernel_rfl
theorem params3 : Try.f3.params = #[25, 3, 3] := by kernel_rfl
theorem laidOut : laidOutB Try.prog = true := by kernel_rfl

theorem three_of {l : List Value} (h : l.length = 3) : ∃ a b c, l = [a, b, c] := by
  match l, h with
  | [a, b, c], _ => exact ⟨a, b, c, rfl⟩

set_option maxRecDepth 100000 in
set_option maxHeartbeats 4000000 in
theorem replayTells_lifted (os : Os) (started : os.Started) (H : Type) (enc : TypeId × Value → H) :
    ReturnsInHanded {} Try.checked os 3 .any (Rows.replayTellsSpec.pre6 enc Try.prog Try.f3 Rows.replayTellsRow.domain false) (Rows.replayTellsSpec.post enc Try.prog Try.f3 false true false false) := by
  refine returnsInHanded_of_change (C := Try.checked) own started (by kernel_rfl) Try.func3
    (ChangeSpec.witness6 (enc := enc) (C := Try.checked) false ⟨#[], #[.agg #[.slice none 0 0, .slice none 0 0, .int .i64 0], .int .i64 0, .int .i64 0], []⟩ 8 (by kernel_rfl) (by kernel_rfl) (by kernel_rfl) (by kernel_rfl)) ?_
  intro W base args ds gs before hval0 hW hcnd _
  have hval : ∀ (j : Nat) t v, Try.f3.params[j]? = some t → args[j]? = some v → Value.okWide Try.prog W .any base t v := hval0
  have hW' := hW
  obtain ⟨p, q, hA0, hV, rfl, hfz, hnd⟩ := hW
  have hA : DataW.TrodAll enc Try.prog W 0 (fun _ => true) true Try.f3.params.toList args.toList ds p := hA0
  rw [params3] at hA hval
  obtain ⟨v0, v1, v2, d0, d1, d2, p0, p1, p2, rfl, rfl, rfl, h0, h1, h2⟩ := trodAll_three hA
  obtain ⟨rfl, rfl⟩ := trodVars_none hV
  obtain ⟨car, rfl, rfl, rfl, w1⟩ := open_int Try.underlying3 (hval 1 3 v1 rfl rfl) h1
  obtain ⟨tick, rfl, rfl, rfl, w2⟩ := open_int Try.underlying3 (hval 2 3 v2 rfl rfl) h2
  have h0k := h0
  obtain ⟨cs, rfl, hcs⟩ := okWide_struct Try.underlying25 (hval 0 25 v0 rfl rfl)
  obtain ⟨cl⟩ := cs
  obtain ⟨fuel, hf⟩ := h0
  obtain ⟨y0, y1, y2, n, hx, hcl, t0, t1, t2⟩ := trod_struct3 Try.underlying25 hf
  obtain ⟨c0, c1, c2, rfl⟩ := three_of (l := cl) (hcl.trans Try.cells25)
  have t0' : DataW.trod enc Try.prog W 0 (fun _ => true) true n 22 [c0] = some y0 := by simpa [Value.cells, Try.cells22] using t0
  have t1' : DataW.trod enc Try.prog W 0 (fun _ => true) true n 23 [c1] = some y1 := by simpa [Value.cells, Try.cells23] using t1
  have t2' : DataW.trod enc Try.prog W 0 (fun _ => true) true n 3 [c2] = some y2 := by simpa [Value.cells, Try.cells3] using t2
  obtain ⟨A, cap, l, e0, hT, hn⟩ := open_rows (f := Trip.enc) (s := 6) (fun _ => rfl) Try.underlying22 Try.cells29 open_trip t0'
  obtain ⟨A2, c2', ls, hs, e1, hls, hn2⟩ := open_legs t1'
  obtain ⟨used, e2⟩ := one_of Try.underlying3 t2'
  cases e0; cases e1; cases e2
  clear hA0 hval0
  have hlt : ∀ x ∈ p0, x.block < W.heap.size := fun x hx => hW'.lt x (by simp [hx])
  refine (law_any A A2 cap c2' used l ls hs W car tick hT hls hn hn2).mono fun e W' ⟨he, hw⟩ => ?_
  subst he
  have hb := hw.below
  have h0s := Below.trod laidOut (by kernel_rfl) (of_decide_eq_true (by kernel_rfl)) h0k hb hlt
  have hargs := trodAll_mk3 h0s (shut_int (k := .i64) (n := car) Try.underlying3 w1) (shut_int (k := .i64) (n := tick) Try.underlying3 w2)
  refine ⟨_, rfl, post_new rfl hW' (fun _ _ _ => trodAll_mk1 (shut_bool (b := true) Try.underlying4)) ?_ rfl hb⟩
  rw [params3]
  simp at hargs ⊢
  exact hargs

theorem replayTells_holds : Rows.ReplayTellsSaid :=
  OpenClaim.holds_of_wide (p := Try.pinned) (s := Rows.replayTellsSpec) (c := Rows.replayTellsRow) 3 Try.f3 rfl rfl rfl rfl rfl rfl rfl ⟨rfl, rfl, rfl, rfl, rfl⟩ rfl rfl rfl rfl rfl (by kernel_rfl) Try.func3 (by kernel_rfl)
    (of_decide_eq_true (by kernel_rfl)) (by unfold Func.isWrapper; first | (rw [if_pos (by decide +kernel)]; kernel_rfl) | (rw [if_neg (by decide +kernel)]; exact ⟨rfl, rfl⟩))
    (fun os started H enc _ => replayTells_lifted os started H enc)
end Go.Proofs.Ytjahbhpcaenllaa
