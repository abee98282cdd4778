/- Texts. -/
import Derived.Test.YtjahbhpcaenllaaHwDraw
import Derived.Laws.IdiomStrings
import Derived.Laws.Strings
namespace Go.Hw
open Go

def str (l : List UInt8) : Value := .string ⟨l.toArray⟩
theorem ba_app (a b : List UInt8) : (⟨a.toArray⟩ : ByteArray) ++ ⟨b.toArray⟩ = ⟨(a ++ b).toArray⟩ := by
  apply ByteArray.ext
  simp [ByteArray.data_append]
section
variable {P : Program} {w : World} {ρ : Operand → Value} {d : Option Tmp} {ty t t' e : TypeId} {ps : String} {af : Array Edge} {g : Option (Nat × Bool)} {x y : Operand} {a b : List UInt8}
theorem X_addS (hx : ρ x = str a) (hy : ρ y = str b) (hl : a.length + b.length ≤ 1000000) : (execOp ρ ⟨d, .binOp .add t x y t', ty, ps, af, g⟩).run P w = .ok (.value (str (a ++ b))) w := by
  have h2 : ((⟨a.toArray⟩ : ByteArray).size + (⟨b.toArray⟩ : ByteArray).size : Nat) = a.length + b.length := by simp [ByteArray.size]
  refine X_bin hx hy rfl ?_
  unfold str
  simp only [binOp, Op.stringOp]
  rw [if_neg (by rw [h2]; simp [IntKind.max, IntKind.bits, IntKind.signed]; omega), ba_app]
  rfl
theorem X_eqS (hx : ρ x = str a) (hy : ρ y = str b) {r : Bool} (hr : (a == b) = r) : (execOp ρ ⟨d, .binOp .eql t x y t', ty, ps, af, g⟩).run P w = .ok (.value (.bool r)) w := by
  subst hr
  refine X_bin hx hy rfl ?_
  unfold str
  rw [binOp_string_eql]
  have h : ∀ l : List UInt8, (⟨l.toArray⟩ : ByteArray).toList = l := fun l => by
    rw [ByteArray.toList_eq]
  rw [h, h]; rfl
theorem X_bytesStr {B c : Nat} (hs : P.underlying t = some (.slice e)) (he : P.underlying e = some (.int .u8)) (hd : P.underlying t' = some .string) (hx : ρ x = .slice (some ⟨B, 0, none⟩) a.length c)
    (hc : ∀ j (hj : j < a.length), w.cell? ⟨B, j, none⟩ = some (.int .u8 (a[j].toNat : Int))) : (execOp ρ ⟨d, .convert t t' x, ty, ps, af, g⟩).run P w = .ok (.value (str a)) w := by
  have h := run_convert_bytes_back w t t' e ⟨B, 0, none⟩ c a hs he hd (fun j hj => by
    have : (⟨B, 0, none⟩ : Addr).add j = ⟨B, j, none⟩ := by
      unfold Addr.add; split
      · rename_i h; rw [h]
      · simp
    rw [this]; exact hc j hj)
  simp only [execOp, hx, Sem.run_bind, h, Result.andThen]; rfl
theorem X_append0 {z : Value} {s b' n c : Nat} {A : Option Addr} (hu : P.underlying t = some (.slice e)) (hi : Inf P e z s b') (hx : ρ x = .slice A n c) (hy : ρ y = .slice none 0 0) (hle : n ≤ c) :
    (execOp ρ ⟨d, .call ⟨.builtin .append, #[x, y], #[t, t]⟩, ty, ps, af, g⟩).run P w = .ok (.value (.slice A n c)) w := by
  obtain ⟨i, hi1, hi2, hi3, hi4⟩ := hi.parts
  have hr : (Builtin.append_ #[t, t] ty #[.slice A n c, .slice none 0 0]).run P w = .ok (.slice A n c) w := by
    cases A <;> simp [Builtin.append_, run_underlying hu, sizeOf, typeInfo, hi1, Builtin.lenOf, hle, Builtin.firstCells, storeCells]
  simp [execOp, resolve, hx, hy, invoke, builtin, hr]
theorem X_remU {p q r : Int} (hx : ρ x = .int .u64 p) (hy : ρ y = .int .u64 q) (h0 : q ≠ 0) (hr : p.tmod q = r) : (execOp ρ ⟨d, .binOp .rem t x y t', ty, ps, af, g⟩).run P w = .ok (.value (.int .u64 r)) w :=
  X_bin hx hy eqGuard_int (by subst hr; simp [binOp, Op.intDiv, h0])
theorem X_quoU {p q r : Int} (hx : ρ x = .int .u64 p) (hy : ρ y = .int .u64 q) (h0 : q ≠ 0) (h : 0 ≤ p.tdiv q ∧ p.tdiv q ≤ 18446744073709551615) (hr : p.tdiv q = r) : (execOp ρ ⟨d, .binOp .quo t x y t', ty, ps, af, g⟩).run P w = .ok (.value (.int .u64 r)) w :=
  X_bin hx hy eqGuard_int (by subst hr; simp [binOp, Op.intDiv, h0, wrapU_in h])
theorem X_addU {p q r : Int} (hx : ρ x = .int .u64 p) (hy : ρ y = .int .u64 q) (h : 0 ≤ p + q ∧ p + q ≤ 18446744073709551615) (hr : p + q = r) : (execOp ρ ⟨d, .binOp .add t x y t', ty, ps, af, g⟩).run P w = .ok (.value (.int .u64 r)) w := by rw [X_addw hx hy, wrapU_in h, hr]
theorem wrap8_in {n : Int} (h : 0 ≤ n ∧ n ≤ 255) : IntKind.u8.wrap n = n := by
  have e : (2 : Int) ^ IntKind.u8.bits = 256 := by decide
  unfold IntKind.wrap
  simp only [IntKind.signed, Bool.false_and, Bool.false_eq_true, if_false, e]
  omega
theorem X_convB {td : TypeDesc} {n : Int} (hs : P.underlying t = some td) (hd : P.underlying t' = some (.int .u8)) (hx : ρ x = .int .u64 n) (h : 0 ≤ n ∧ n ≤ 255) : (execOp ρ ⟨d, .convert t t' x, ty, ps, af, g⟩).run P w = .ok (.value (.int .u8 n)) w := X_conv hs hd hx (wrap8_in h)
end
theorem X_pickT {P : Program} {w : World} {ρ : Operand → Value} {d : Option Tmp} {ty : TypeId} {ps : String} {af : Array Edge} {g : Option (Nat × Bool)} {c x y : Operand} {v : Value} (hc : ρ c = .bool true) (hx : ρ x = v) : (execOp ρ ⟨d, .pick c x y, ty, ps, af, g⟩).run P w = .ok (.value v) w := by
  subst hx
  simp only [execOp, hc]; rfl
theorem dig_mod {d : Nat} (h : d < 10) : ((d : Nat) : Int).tmod 10 = (d : Nat) := by rw [Int.tmod_eq_emod_of_nonneg (by omega)]; omega
theorem dig_div {d : Nat} (h : d < 10) : ((d : Nat) : Int).tdiv 10 = 0 := by rw [Int.tdiv_eq_ediv_of_nonneg (by omega)]; omega
theorem one_byte {w : World} {B d : Nat} {e : TypeId} (hB : At w B (.cells #[.int .u8 ((48 + d : Nat) : Int)] e)) (hd : d < 10) : ∀ j (hj : j < [UInt8.ofNat (48 + d)].length), w.cell? ⟨B, j, none⟩ = some (.int .u8 (([UInt8.ofNat (48 + d)][j]'hj).toNat : Int)) := fun j hj => by
  obtain rfl : j = 0 := by simpa using hj
  rw [hB.cell]
  have h2 : (48 + d) % 256 = 48 + d := by omega
  simp [UInt8.toNat_ofNat', h2]
end Go.Hw
