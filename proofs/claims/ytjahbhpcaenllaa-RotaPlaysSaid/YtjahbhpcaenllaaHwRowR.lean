/- Proved: for every list of calls and every place asked the law RotaPlays returns true, and its arguments read afterwards as they read before. Its conditions: those of the given row, and no others. -/
import Derived.Test.YtjahbhpcaenllaaRows
import Derived.Test.YtjahbhpcaenllaaHwRota
import Derived.Test.YtjahbhpcaenllaaHwRotaLaw2
import Derived.Test.YtjahbhpcaenllaaHwOpenR
import Derived.ProofKit
import Derived.Carry
namespace Go.Proofs.Ytjahbhpcaenllaa
open Go.ChangeShapes Go.WideShapes Go.ChangeAt Go.RowKit Go.Hw Go.Deep Md

theorem own : ownKnob Try.prog.godebug = none := by kernel_rfl
theorem params5 : Try.f5.params = #[62, 66] := by kernel_rfl
theorem laidOut : laidOutB Try.prog = true := by kernel_rfl

set_option maxRecDepth 100000 in
set_option maxHeartbeats 4000000 in
theorem rotaPlays_lifted (os : Os) (started : os.Started) (H : Type) (enc : TypeId × Value → H) :
    ReturnsInHanded {} Try.checked os 5 .any (Rows.rotaPlaysSpec.pre6 enc Try.prog Try.f5 Rows.rotaPlaysRow.domain false) (Rows.rotaPlaysSpec.post enc Try.prog Try.f5 false true false false) := by
  refine returnsInHanded_of_change (C := Try.checked) own started (by kernel_rfl) Try.func5
    (ChangeSpec.witness6 (enc := enc) (C := Try.checked) false ⟨#[], #[.slice none 0 0, .agg #[.int .i64 0, .int .i64 0, .int .i64 0, .int .i64 0, .int .i64 0]], []⟩ 8 (by kernel_rfl) (by kernel_rfl) (by kernel_rfl) (by kernel_rfl)) ?_
  intro W base args ds gs before hval0 hW hcnd _
  have hval : ∀ (j : Nat) t v, Try.f5.params[j]? = some t → args[j]? = some v → Value.okWide Try.prog W .any base t v := hval0
  have hW' := hW
  obtain ⟨p, q, hA0, hV, rfl, hfz, hnd⟩ := hW
  have hA : DataW.TrodAll enc Try.prog W 0 (fun _ => true) true Try.f5.params.toList args.toList ds p := hA0
  rw [params5] at hA hval
  obtain ⟨v0, v1, d0, d1, p0, p1, rfl, rfl, rfl, h0, h1⟩ := trodAll_two hA
  obtain ⟨rfl, rfl⟩ := trodVars_none hV
  have h0k := h0
  have h1k := h1
  obtain ⟨A0, n0, c0, rfl⟩ := okWide_slice Try.underlying62 (hval 0 62 v0 rfl rfl)
  obtain ⟨cs, rfl, hcs⟩ := okWide_struct Try.underlying66 (hval 1 66 v1 rfl rfl)
  obtain ⟨cl⟩ := cs
  obtain ⟨fuel0, hf0⟩ := h0
  obtain ⟨fuel1, hf1⟩ := h1
  obtain ⟨A, cap, l, e0, hsl⟩ := open_rows (f := Law68_Op.E) (s := 3) (fun _ => rfl) Try.underlying62 Try.cells72 open_72 hf0
  have e0' : [Value.slice A0 n0 c0] = [.slice A l.length cap] := e0
  cases e0'
  obtain ⟨a, e1⟩ := open_66 _ _ _ hf1
  have e1' : cl = Law68_At.E a := e1
  subst e1'
  clear hA0 hval0
  have hlt : ∀ x ∈ p0 ++ p1, x.block < W.heap.size := fun x hx => hW'.lt x (by simpa using hx)
  refine (law68_RotaPlays_any W A0 c0 l a hsl (rotaPlays_true l a)).mono fun e W' ⟨_, he, hv, hw⟩ => ?_
  subst he
  subst hv
  have hb := hw.below
  have h0s := Below.trod laidOut (by kernel_rfl) (of_decide_eq_true (by kernel_rfl)) h0k hb (fun x hx => hlt x (List.mem_append_left _ hx))
  have h1s := Below.trod laidOut (by kernel_rfl) (of_decide_eq_true (by kernel_rfl)) h1k hb (fun x hx => hlt x (List.mem_append_right _ hx))
  have hargs := trodAll_mk2 h0s h1s
  refine ⟨_, rfl, post_new rfl hW' (fun _ _ _ => trodAll_mk1 (shut_bool (b := true) Try.underlying4)) ?_ rfl hb⟩
  rw [params5]
  simp at hargs ⊢
  exact hargs

theorem rotaPlays_holds : Rows.RotaPlaysSaid :=
  OpenClaim.holds_of_wide (p := Try.pinned) (s := Rows.rotaPlaysSpec) (c := Rows.rotaPlaysRow) 5 Try.f5 rfl rfl rfl rfl rfl rfl rfl ⟨rfl, rfl, rfl, rfl, rfl⟩ rfl rfl rfl rfl rfl (by kernel_rfl) Try.func5 (by kernel_rfl)
    (of_decide_eq_true (by kernel_rfl)) (by unfold Func.isWrapper; first | (rw [if_pos (by decide +kernel)]; kernel_rfl) | (rw [if_neg (by decide +kernel)]; exact ⟨rfl, rfl⟩))
    (fun os started H enc _ => rotaPlays_lifted os started H enc)
end Go.Proofs.Ytjahbhpcaenllaa
