/- Closed facts: '==' of structs, structs as keys. -/
import Derived.Test.YtjahbhpcaenllaaHwMd
import Derived.Test.YtjahbhpcaenllaaHwTypes
namespace Go.Proofs
open Go.RowKit Go.Hw Md
theorem Try.eq64 : EqS Try.prog 64 Span.E := fun d w x y => by
  have u3 := Try.underlying3
  have a3 := Try.isAgg3
  have z3 := Try.sizeOf3
  have hS : Try.prog.underlying 64 = some (.struct (Try.prog.fieldsOf 64)) := by kernel_rfl
  have hp : Try.prog.stoodInHeld 64 = false := by kernel_rfl
  rw [show d + 8 = (d + 7) + 1 from rfl, run_equalIn_agg w (d + 7) 64 _ _ hS hp]
  simp only [Program.fieldsOf, Try.underlying64, Span.E]
  go_simp
  by_cases h0 : x.From = y.From <;> by_cases h1 : x.To = y.To <;> simp [h0, h1, Span.eq_]
theorem Try.eqg64 : Try.prog.eqGuardType Try.prog.depth 64 = false := by kernel_rfl
theorem Try.eq53 : EqS Try.prog 53 Waiter.E := fun d w x y => by
  have u3 := Try.underlying3
  have a3 := Try.isAgg3
  have z3 := Try.sizeOf3
  have hS : Try.prog.underlying 53 = some (.struct (Try.prog.fieldsOf 53)) := by kernel_rfl
  have hp : Try.prog.stoodInHeld 53 = false := by kernel_rfl
  rw [show d + 8 = (d + 7) + 1 from rfl, run_equalIn_agg w (d + 7) 53 _ _ hS hp]
  simp only [Program.fieldsOf, Try.underlying53, Waiter.E]
  go_simp
  by_cases h0 : x.Id = y.Id <;> by_cases h1 : x.From = y.From <;> by_cases h2 : x.To = y.To <;> by_cases h3 : x.Car = y.Car <;> simp [h0, h1, h2, h3, Waiter.eq_]
theorem Try.eqg53 : Try.prog.eqGuardType Try.prog.depth 53 = false := by kernel_rfl
theorem Try.eq59 : EqS Try.prog 59 Queue_Key.E := fun d w x y => by
  have u3 := Try.underlying3
  have a3 := Try.isAgg3
  have z3 := Try.sizeOf3
  have hS : Try.prog.underlying 59 = some (.struct (Try.prog.fieldsOf 59)) := by kernel_rfl
  have hp : Try.prog.stoodInHeld 59 = false := by kernel_rfl
  rw [show d + 8 = (d + 7) + 1 from rfl, run_equalIn_agg w (d + 7) 59 _ _ hS hp]
  simp only [Program.fieldsOf, Try.underlying59, Queue_Key.E]
  go_simp
  by_cases h0 : x.Floor = y.Floor <;> by_cases h1 : x.Dir = y.Dir <;> by_cases h2 : x.Car = y.Car <;> simp [h0, h1, h2, Queue_Key.eq_]
theorem Try.eqg59 : Try.prog.eqGuardType Try.prog.depth 59 = false := by kernel_rfl
theorem Try.key59 : KeyT Try.prog 59 Queue_Key.V := by
  have u3 := Try.underlying3
  have a3 := Try.isAgg3
  have z3 := Try.sizeOf3
  have hS : Try.prog.underlying 59 = some (.struct (Try.prog.fieldsOf 59)) := by kernel_rfl
  refine KeyT.asked hS (fun _ _ => rfl) (fun e w k => ?_) (fun k => sameBits_agg 9998 (Queue_Key.E k) rfl) (fun w a b => Try.eq59.op w a b)
  have hc : ∀ d, (Instr.checkKey e (d + 8) 59 (.agg (Queue_Key.E k).toArray)).run Try.prog w = .ok () w := fun d => by
    rw [show d + 8 = (d + 7) + 1 from rfl, run_checkKey_struct w e (d + 7) 59 _ hS]
    simp only [Program.fieldsOf, Try.underlying59, Queue_Key.E, keyFields]
    go_simp
    try simp [run_checkKey_int w e _ 3 _ _ _ u3]
  exact hc 9992
theorem Try.eq148 : EqS Try.prog 148 Cell.E := fun d w x y => by
  have u3 := Try.underlying3
  have a3 := Try.isAgg3
  have z3 := Try.sizeOf3
  have hS : Try.prog.underlying 148 = some (.struct (Try.prog.fieldsOf 148)) := by kernel_rfl
  have hp : Try.prog.stoodInHeld 148 = false := by kernel_rfl
  rw [show d + 8 = (d + 7) + 1 from rfl, run_equalIn_agg w (d + 7) 148 _ _ hS hp]
  simp only [Program.fieldsOf, Try.underlying148, Cell.E]
  go_simp
  by_cases h0 : x.From = y.From <;> by_cases h1 : x.To = y.To <;> simp [h0, h1, Cell.eq_]
theorem Try.eqg148 : Try.prog.eqGuardType Try.prog.depth 148 = false := by kernel_rfl
theorem Try.key148 : KeyT Try.prog 148 Cell.V := by
  have u3 := Try.underlying3
  have a3 := Try.isAgg3
  have z3 := Try.sizeOf3
  have hS : Try.prog.underlying 148 = some (.struct (Try.prog.fieldsOf 148)) := by kernel_rfl
  refine KeyT.asked hS (fun _ _ => rfl) (fun e w k => ?_) (fun k => sameBits_agg 9998 (Cell.E k) rfl) (fun w a b => Try.eq148.op w a b)
  have hc : ∀ d, (Instr.checkKey e (d + 8) 148 (.agg (Cell.E k).toArray)).run Try.prog w = .ok () w := fun d => by
    rw [show d + 8 = (d + 7) + 1 from rfl, run_checkKey_struct w e (d + 7) 148 _ hS]
    simp only [Program.fieldsOf, Try.underlying148, Cell.E, keyFields]
    go_simp
    try simp [run_checkKey_int w e _ 3 _ _ _ u3]
  exact hc 9992
theorem Try.eq146 : EqS Try.prog 146 Queue_call.E := fun d w x y => by
  have u3 := Try.underlying3
  have a3 := Try.isAgg3
  have z3 := Try.sizeOf3
  have hS : Try.prog.underlying 146 = some (.struct (Try.prog.fieldsOf 146)) := by kernel_rfl
  have hp : Try.prog.stoodInHeld 146 = false := by kernel_rfl
  rw [show d + 8 = (d + 7) + 1 from rfl, run_equalIn_agg w (d + 7) 146 _ _ hS hp]
  simp only [Program.fieldsOf, Try.underlying146, Queue_call.E]
  go_simp
  by_cases h0 : x.n_ = y.n_ <;> by_cases h1 : x.car = y.car <;> simp [h0, h1, Queue_call.eq_]
theorem Try.eqg146 : Try.prog.eqGuardType Try.prog.depth 146 = false := by kernel_rfl
end Go.Proofs
