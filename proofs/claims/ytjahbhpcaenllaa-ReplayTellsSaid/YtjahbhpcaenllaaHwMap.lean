/- Maps from numbers to numbers. -/
import Derived.Test.YtjahbhpcaenllaaHwDraw
import Derived.MapKept
namespace Go.Hw
open Go

def ents : List (Int × Int) → Nat → List MapEntry
  | [], _ => []
  | p :: ks, i => { key := .int .i64 p.1, val := .int .i64 p.2, born := i } :: ents ks (i + 1)
def lkp : List (Int × Int) → Int → Option Int
  | [], _ => none
  | p :: ks, x => if x = p.1 then some p.2 else lkp ks x
def MapAt (w : World) (g : Nat) (ks : List (Int × Int)) : Prop := At w g (.map (ents ks 0).toArray ks.length)
theorem ents_snoc (ks : List (Int × Int)) (p : Int × Int) (i : Nat) : ents (ks ++ [p]) i = ents ks i ++ [{ key := .int .i64 p.1, val := .int .i64 p.2, born := i + ks.length }] := by
  induction ks generalizing i with
  | nil => rfl
  | cons q ks ih =>
    show _ :: ents (ks ++ [p]) (i + 1) = _ :: (ents ks (i + 1) ++ _)
    rw [ih]
    simp only [List.length_cons]
    rw [show i + 1 + ks.length = i + (ks.length + 1) by omega]
theorem findNow_ents (x : Int) : ∀ (ks : List (Int × Int)) (b i : Nat), ∃ r, Instr.findNow (.int .i64) (.int .i64 x) (ents ks b) i = some r ∧ r.map (·.2) = (lkp ks x).map (Value.int .i64)
  | [], b, i => ⟨none, rfl, rfl⟩
  | p :: ks, b, i => by
    obtain ⟨r, h1, h2⟩ := findNow_ents x ks (b + 1) (i + 1)
    by_cases h : x = p.1
    · refine ⟨some (i, .int .i64 p.2), ?_, by simp [lkp, h]⟩
      simp [ents, Instr.findNow, Instr.sameNow, h]
    · refine ⟨r, ?_, by simp [lkp, h, h2]⟩
      have hb : (x == p.1) = false := by simpa using h
      simp [ents, Instr.findNow, Instr.sameNow, hb, h1]

section
variable {P : Program} {w : World} {ρ : Operand → Value} {d : Option Tmp} {ty t kt et : TypeId} {ps : String} {af : Array Edge} {gd : Option (Nat × Bool)} {x y z : Operand} {g : Nat} {ks : List (Int × Int)} {a v : Int}
theorem X_lookup (hu : P.underlying t = some (.map kt et)) (hk : P.underlying kt = some (.int .i64)) (hx : ρ x = .map (some g)) (hy : ρ y = .int .i64 a) (hm : MapAt w g ks) (hl : lkp ks a = some v) :
    (execOp ρ ⟨d, .lookup t x y false, ty, ps, af, gd⟩).run P w = .ok (.value (.int .i64 v)) w := by
  obtain ⟨r, h1, h2⟩ := findNow_ents a ks 0 0
  have hc : ∀ e, (Instr.checkKey e 10000 kt (.int .i64 a)).run P w = .ok () w := fun e => MapKept.run_checkKey hk (by simp [MapKept.IsKey]) e 9999
  have hf := MapKept.run_findKey (w := w) hk h1
  rw [hl] at h2
  cases r with
  | none => simp at h2
  | some r =>
    obtain ⟨i, u⟩ := r
    simp at h2
    subst h2
    simp [execOp, hx, hy, Instr.lookup, run_underlying hu, MapKept.run_getObj_map hm, hc, hf, Result.andThen]
theorem X_mapNew (hu : P.underlying t = some (.map kt et)) (hk : P.underlying kt = some (.int .i64)) (hx : ρ x = .map (some g)) (hy : ρ y = .int .i64 a) (hz : ρ z = .int .i64 v) (hm : MapAt w g ks) (hl : lkp ks a = none) :
    ∃ w', (execOp ρ ⟨d, .mapUpdate t x y z, ty, ps, af, gd⟩).run P w = .ok .skip w' ∧ MapAt w' g (ks ++ [(a, v)]) ∧ Keeps (· = g) w w' := by
  obtain ⟨r, h1, h2⟩ := findNow_ents a ks 0 0
  have hc : ∀ e, (Instr.checkKey e 10000 kt (.int .i64 a)).run P w = .ok () w := fun e => MapKept.run_checkKey hk (by simp [MapKept.IsKey]) e 9999
  have hf := MapKept.run_findKey (w := w) hk h1
  rw [hl] at h2
  cases r with
  | some r => simp at h2
  | none =>
    obtain ⟨h3, h4⟩ := MapKept.heap_set (o' := .map (ents (ks ++ [(a, v)]) 0).toArray (ks ++ [(a, v)]).length) hm
    refine ⟨{ w with heap := w.heap.setIfInBounds g (.map (ents (ks ++ [(a, v)]) 0).toArray (ks ++ [(a, v)]).length) }, ?_, h3, ⟨rfl, rfl, rfl, by simp, fun k _ hk => h4 k hk⟩⟩
    simp [execOp, hx, hy, hz, Instr.mapUpdate, run_underlying hu, MapKept.run_getObj_map hm, hc, hf, Result.andThen, MapKept.run_setObj_map _ hm, ents_snoc]
theorem X_makeMap : (execOp ρ ⟨d, .makeMap t none, ty, ps, af, gd⟩).run P w = .ok (.value (.map (some w.heap.size))) (w.alloc (.map #[] 0)) := by
  simp [execOp, Instr.makeMap, newObj]
  rfl
end
section
variable {P : Program} {n : Nat} {Q : Exit → Fr → World → Prop} {φ : Fr} {w : World} {ops : Array Oper} {o : Oper} {rest : List Oper}
theorem RL.makeMap {t : TypeId} (ho : o.op = .makeMap t none) (hg : o.guard = none) {dd : Nat} (hd : Dst n o.dst dd)
    (h : ∀ B w', w.heap.size ≤ B → MapAt w' B [] → Keeps none_ w w' → RL P n ops rest Q (upd φ dd (.map (some B))) w') : RL P n ops (o :: rest) Q φ w := by
  obtain ⟨d, op, ty, ps, af, g⟩ := o
  cases ho
  exact RL.eff hg X_makeMap hd (h _ _ (Nat.le_refl _) (At.new _ _) (Keeps.alloc _ _ _))
theorem RL.mapNew {t kt et : TypeId} {x y z : Operand} {g : Nat} {ks : List (Int × Int)} {a v : Int} (ho : o.op = .mapUpdate t x y z) (hg : o.guard = none) (hd : o.dst = none)
    (hu : P.underlying t = some (.map kt et)) (hk : P.underlying kt = some (.int .i64)) (hx : ev φ x = .map (some g)) (hy : ev φ y = .int .i64 a) (hz : ev φ z = .int .i64 v) (hm : MapAt w g ks) (hl : lkp ks a = none)
    (h : ∀ w', MapAt w' g (ks ++ [(a, v)]) → Keeps (· = g) w w' → RL P n ops rest Q φ w') : RL P n ops (o :: rest) Q φ w := by
  obtain ⟨d, op, ty, ps, af, gd⟩ := o
  cases ho
  obtain ⟨w', h1, h2, h3⟩ := X_mapNew (d := d) (ty := ty) (ps := ps) (af := af) (gd := gd) hu hk hx hy hz hm hl
  exact RL.store hg h1 hd (h w' h2 h3)
theorem MapAt.keep {M : Nat → Prop} {w w' : World} {g : Nat} {ks : List (Int × Int)} (hK : Keeps M w w') (h : MapAt w g ks) (hn : ¬ M g) : MapAt w' g ks := hK.at_ h hn
end
end Go.Hw
