/- Maps over the list of pieces: keys of any comparable type; values that are plain, and values that are rows of their own. -/
import Derived.Test.YtjahbhpcaenllaaHwSep3
import Derived.MapKept
namespace Go.Hw
open Go

/-! ### maps as lists -/
abbrev Mp (K V : Type) := Option (List (K × V))
section
variable {K V : Type} [DecidableEq K]
def alook : List (K × V) → K → Option V
  | [], _ => none
  | e :: l, k => if e.1 = k then some e.2 else alook l k
def aset : List (K × V) → K → V → List (K × V)
  | [], k, v => [(k, v)]
  | e :: l, k, v => if e.1 = k then (k, v) :: l else e :: aset l k v
def adel : List (K × V) → K → List (K × V)
  | [], _ => []
  | e :: l, k => if e.1 = k then l else e :: adel l k
def mget (m : Mp K V) (k : K) : Option V := m.bind fun l => alook l k
def mset (m : Mp K V) (k : K) (v : V) : Mp K V := m.map fun l => aset l k v
def mdel (m : Mp K V) (k : K) : Mp K V := m.map fun l => adel l k
def mlen (m : Mp K V) : Nat := (m.getD []).length
def mnew : Mp K V := some []
def mis (m : Mp K V) (k : K) : Bool := (mget m k).isSome

/-- where a key stands -/
def aidx : List (K × V) → K → Option Nat
  | [], _ => none
  | e :: l, k => if e.1 = k then some 0 else (aidx l k).map (· + 1)
end

/-- a type whose values are keys -/
structure KeyT (P : Program) (kt : TypeId) {K : Type} [DecidableEq K] (KE : K → Value) : Prop where
  chk : ∀ e w k, (Instr.checkKey e 10000 kt (KE k)).run P w = .ok () w
  bits : ∀ k, Instr.sameBits 10000 (KE k) (KE k) = true
  find : ∀ {V : Type} w k (es : List MapEntry) (l : List (K × V)), es.map (·.key) = l.map (fun e => KE e.1) → (Instr.findKey kt (KE k) es).run P w = .ok ((aidx l k).bind fun i => (es[i]?).map fun e => (i, e.val)) w

section
variable {P : Program} {kt : TypeId} {K : Type} [DecidableEq K] {KE : K → Value}
theorem KeyT.int {k : IntKind} (hu : P.underlying kt = some (.int k)) : KeyT P kt (fun n : Int => Value.int k n) where
  chk e w n := MapKept.run_checkKey hu (by simp [MapKept.IsKey]) e 9999
  bits n := MapKept.sameBits_self (d := .int k) (by simp [MapKept.IsKey]) 10000
  find {V} w n es l h := by
    refine MapKept.run_findKey hu ?_
    have : ∀ (es : List MapEntry) (l : List (Int × V)) (i : Nat), es.map (·.key) = l.map (fun e => Value.int k e.1) → Instr.findNow (.int k) (.int k n) es i = some ((aidx l n).bind fun j => (es[j]?).map fun e => (i + j, e.val)) := by
      intro es
      induction es with
      | nil => intro l i h; cases l with | nil => rfl | cons a l => simp at h
      | cons e es ih =>
        intro l i h
        cases l with
        | nil => simp at h
        | cons a l =>
          simp only [List.map_cons, List.cons.injEq] at h
          unfold Instr.findNow
          rw [h.1]
          by_cases ha : a.1 = n
          · simp [Instr.sameNow, aidx, ha]
          · have hb : (n == a.1) = false := by simpa using fun h => ha h.symm
            simp only [Instr.sameNow, if_true, hb, aidx, ha, if_false]
            rw [ih l (i + 1) h.2]
            cases aidx l n with
            | none => rfl
            | some j => simp [Nat.add_comm, Nat.add_left_comm]
    simpa using this es l 0 h
theorem KeyT.asked {d : TypeDesc} (hu : P.underlying kt = some d) (hnow : ∀ a b, Instr.sameNow d (KE a) (KE b) = none) (hc : ∀ e w k, (Instr.checkKey e 10000 kt (KE k)).run P w = .ok () w) (hb : ∀ k, Instr.sameBits 10000 (KE k) (KE k) = true)
    (heq : ∀ w a b, (Op.equal kt (KE a) (KE b)).run P w = .ok (decide (a = b)) w) : KeyT P kt KE where
  chk := hc
  bits := hb
  find {V} w n es l h := by
    have h2 : ∀ (es : List MapEntry) (l : List (K × V)) (i : Nat), es.map (·.key) = l.map (fun e => KE e.1) → (Instr.findAsking kt (KE n) es i).run P w = .ok ((aidx l n).bind fun j => (es[j]?).map fun e => (i + j, e.val)) w := by
      intro es
      induction es with
      | nil => intro l i h; cases l with | nil => rfl | cons a l => simp at h
      | cons e es ih =>
        intro l i h
        cases l with
        | nil => simp at h
        | cons a l =>
          simp only [List.map_cons, List.cons.injEq] at h
          unfold Instr.findAsking
          rw [h.1]
          simp only [Sem.run_bind, heq, Result.andThen]
          by_cases ha : a.1 = n
          · simp [aidx, ha]
          · have ha' : ¬ n = a.1 := fun h => ha h.symm
            simp only [ha', decide_false, Bool.false_eq_true, if_false, aidx, ha]
            rw [ih l (i + 1) h.2]
            cases aidx l n with
            | none => rfl
            | some j => simp [Nat.add_comm, Nat.add_left_comm]
    unfold Instr.findKey
    simp only [Sem.run_bind, run_underlying hu, Result.andThen]
    cases es with
    | nil => cases l with | nil => rfl | cons a l => simp at h
    | cons e es =>
      cases l with
      | nil => simp at h
      | cons a l =>
        have he : e.key = KE a.1 := by simpa using (List.cons.inj (by simpa using h)).1
        simp only [Instr.findNow, he, hnow]
        simpa using h2 (e :: es) (a :: l) 0 h
end

theorem aidx_look {K V : Type} [DecidableEq K] : ∀ (l : List (K × V)) (k : K), alook l k = (aidx l k).bind fun i => (l[i]?).map (·.2)
  | [], _ => rfl
  | e :: l, k => by
    by_cases h : e.1 = k
    · simp [alook, aidx, h]
    · simp only [alook, aidx, h, if_false]
      rw [aidx_look l k]
      cases aidx l k <;> simp

/-! ### plain values -/
/-- the entries of a map's block, told as a list -/
structure EntsF {K V : Type} (KE : K → Value) (VE : V → Value) (es : Array MapEntry) (clock : Nat) (l : List (K × V)) : Prop where
  key : es.toList.map (·.key) = l.map fun e => KE e.1
  val : es.toList.map (·.val) = l.map fun e => VE e.2
  nodup : (l.map (·.1)).Nodup
  born : (∀ x ∈ es.toList, x.born < clock) ∧ (es.toList.map (·.born)).Nodup

def MapF {K V : Type} (w : World) (r : Option Nat) (KE : K → Value) (VE : V → Value) (m : Mp K V) : Prop :=
  (r = none ∧ m = none) ∨ ∃ b l es clock, r = some b ∧ m = some l ∧ At w b (.map es clock) ∧ EntsF KE VE es clock l
def Ck.mpf {K V : Type} (r : Option Nat) (KE : K → Value) (VE : V → Value) (m : Mp K V) : Ck where
  f b := r = some b
  r := none_
  P w := MapF w r KE VE m
  lt w h b hb := by
    rcases hb with hb | hb
    · rcases h with ⟨h0, _⟩ | ⟨b', l, es, cl, h0, _, hg, _⟩
      · rw [h0] at hb; cases hb
      · rw [h0] at hb; cases hb; exact hg.lt
    · exact hb.elim
  st w w' h hP := by
    rcases hP with hP | ⟨b, l, es, cl, h0, h1, hg, he⟩
    · exact .inl hP
    · exact .inr ⟨b, l, es, cl, h0, h1, (h b (.inl h0)).trans hg, he⟩

section
variable {P : Program} {φ : Fr} {w : World} {F : Nat → Prop} {w0 : World} {L : List Ck} {d : Option Tmp} {ty t kt et : TypeId} {ps : String} {af : Array Edge} {g : Option (Nat × Bool)} {x y z : Operand}
variable {K V : Type} [DecidableEq K] {KE : K → Value} {VE : V → Value} {m : Mp K V} {r : Option Nat} {ρ : Operand → Value}

omit [DecidableEq K] in
theorem EntsF.get {es : Array MapEntry} {cl : Nat} {l : List (K × V)} (h : EntsF KE VE es cl l) (i : Nat) : (es.toList[i]?).map (·.val) = (l[i]?).map fun e => VE e.2 := by
  have h1 : (es.toList.map (·.val))[i]? = (l.map fun e => VE e.2)[i]? := by rw [h.val]
  simpa only [List.getElem?_map] using h1
theorem EntsF.at_ {es : Array MapEntry} {cl : Nat} {l : List (K × V)} (h : EntsF KE VE es cl l) (k : K) : ((aidx l k).bind fun i => (es.toList[i]?).map fun e => (i, e.val)) = (aidx l k).bind fun i => (l[i]?).map fun e => (i, VE e.2) := by
  cases aidx l k with
  | none => rfl
  | some i =>
    have h1 := h.get i
    simp only [Option.bind_some]
    generalize es.toList[i]? = u at h1 ⊢
    generalize l[i]? = v at h1 ⊢
    cases u with
    | none => cases v with
      | none => rfl
      | some a => cases h1
    | some e => cases v with
      | none => cases h1
      | some a => simp only [Option.map_some, Option.some.injEq] at h1 ⊢; rw [h1]
omit [DecidableEq K] in
theorem SH.mpf (h : SH F w0 w L) (i : Nat) (hi : nth L i = some (.mpf r KE VE m)) : MapF w r KE VE m := h.get hi

theorem lookF (hk : KeyT P kt KE) (hu : P.underlying t = some (.map kt et)) (hx : ρ x = .map r) {k : K} (hy : ρ y = KE k) (hm : MapF w r KE VE m) {zv : Value} {s b : Nat} (hi : Inf P et zv s b) (dv : V) (hz : zv = VE dv) (ok : Bool) :
    (execOp ρ ⟨d, .lookup t x y ok, ty, ps, af, g⟩).run P w = .ok (.value (if ok then .tuple #[VE ((mget m k).getD dv), .bool (mis m k)] else VE ((mget m k).getD dv))) w := by
  have hzr := hi.zero w
  rcases hm with ⟨h0, h1⟩ | ⟨b', l, es, cl, h0, h1, hg, he⟩
  · subst h0; subst h1; subst hz
    have hf := hk.find (V := V) w k [] [] rfl
    cases ok <;> simp [execOp, hx, hy, Instr.lookup, run_underlying hu, hk.chk, hf, Result.andThen, hzr, aidx, mget, mis]
  · subst h0; subst h1; subst hz
    have hf := hk.find w k es.toList l he.key
    rw [he.at_] at hf
    have hl : mget (some l) k = (aidx l k).bind fun i => (l[i]?).map (·.2) := aidx_look l k
    simp only [mis, hl]
    cases hj : aidx l k with
    | none =>
      rw [hj] at hf
      simp only [Option.bind_none] at hf
      cases ok <;> simp [execOp, hx, hy, Instr.lookup, run_underlying hu, MapKept.run_getObj_map hg, hk.chk, hf, Result.andThen, hzr]
    | some i =>
      rw [hj] at hf
      simp only [Option.bind_some] at hf
      cases hli : l[i]? with
      | none =>
        rw [hli] at hf; simp only [Option.map_none] at hf
        cases ok <;> simp [execOp, hx, hy, Instr.lookup, run_underlying hu, MapKept.run_getObj_map hg, hk.chk, hf, Result.andThen, hzr, hli]
      | some a =>
        rw [hli] at hf; simp only [Option.map_some] at hf
        cases ok <;> simp [execOp, hx, hy, Instr.lookup, run_underlying hu, MapKept.run_getObj_map hg, hk.chk, hf, Result.andThen, hli]
theorem X_lookF (hk : KeyT P kt KE) (hu : P.underlying t = some (.map kt et)) (hx : ρ x = .map r) {k : K} (hy : ρ y = KE k) (hm : MapF w r KE VE m) {zv : Value} {s b : Nat} (hi : Inf P et zv s b) (dv : V) (hz : zv = VE dv) :
    (execOp ρ ⟨d, .lookup t x y false, ty, ps, af, g⟩).run P w = .ok (.value (VE ((mget m k).getD dv))) w := lookF hk hu hx hy hm hi dv hz false
theorem X_lookFok (hk : KeyT P kt KE) (hu : P.underlying t = some (.map kt et)) (hx : ρ x = .map r) {k : K} (hy : ρ y = KE k) (hm : MapF w r KE VE m) {zv : Value} {s b : Nat} (hi : Inf P et zv s b) (dv : V) (hz : zv = VE dv) :
    (execOp ρ ⟨d, .lookup t x y true, ty, ps, af, g⟩).run P w = .ok (.value (.tuple #[VE ((mget m k).getD dv), .bool (mis m k)])) w := lookF hk hu hx hy hm hi dv hz true
omit [DecidableEq K] in
theorem MapF.nil (hm : MapF w r KE VE m) : r.isNone = m.isNone := by
  rcases hm with ⟨h0, h1⟩ | ⟨b', l, es, cl, h0, h1, hg, he⟩
  · rw [h0, h1]; rfl
  · rw [h0, h1]; rfl
theorem run_eqM0 (n : Nat) (hu : P.underlying t = some (.map kt et)) : (Op.equalIn (n + 1) t (.map r) (.map none)).run P w = .ok r.isNone w := by
  cases r <;> simp [Op.equalIn, run_underlying hu]
theorem run_eqM (hu : P.underlying t = some (.map kt et)) : (Op.equalIn 10000 t (.map r) (.map none)).run P w = .ok r.isNone w := run_eqM0 9999 hu
omit [DecidableEq K] in
theorem X_nilM {t' : TypeId} (hx : ρ x = .map r) (hu : P.underlying t = some (.map kt et)) (hy : ρ y = .map none) (hm : r.isNone = m.isNone) : (execOp ρ ⟨d, .binOp .eql t x y t', ty, ps, af, g⟩).run P w = .ok (.value (.bool m.isNone)) w := by
  refine X_bin hx hy ?_ ?_
  · simp [eqGuard]
  · rw [← hm]
    simp only [binOp]
    simp [Op.equal, Op.maxDepth, run_eqM hu]

/-! ### keys' places -/
theorem aidx_some : ∀ {l : List (K × V)} {k : K} {i : Nat}, aidx l k = some i → (∀ v, aset l k v = l.set i (k, v)) ∧ adel l k = l.eraseIdx i ∧ (l.map (·.1))[i]? = some k
  | [], _, _, h => by cases h
  | e :: l, k, i, h => by
    by_cases he : e.1 = k
    · simp only [aidx, he, if_true, Option.some.injEq] at h
      subst h
      exact ⟨fun v => by simp [aset, he], by simp [adel, he], by simp [he]⟩
    · simp only [aidx, he, if_false, Option.map_eq_some_iff] at h
      obtain ⟨j, hj, rfl⟩ := h
      obtain ⟨h1, h2, h3⟩ := aidx_some hj
      exact ⟨fun v => by simp [aset, he, h1 v], by simp [adel, he, h2], by simpa using h3⟩
theorem aidx_none : ∀ {l : List (K × V)} {k : K}, aidx l k = none → (∀ v, aset l k v = l ++ [(k, v)]) ∧ adel l k = l ∧ k ∉ l.map (·.1)
  | [], k, _ => ⟨fun v => rfl, rfl, by simp⟩
  | e :: l, k, h => by
    by_cases he : e.1 = k
    · simp [aidx, he] at h
    · simp only [aidx, he, if_false, Option.map_eq_none_iff] at h
      obtain ⟨h1, h2, h3⟩ := aidx_none h
      exact ⟨fun v => by simp [aset, he, h1 v], by simp [adel, he, h2], by simp only [List.map_cons, List.mem_cons, not_or]; exact ⟨fun h => he h.symm, h3⟩⟩

omit [DecidableEq K] in
theorem EntsF.len {es : Array MapEntry} {cl : Nat} {l : List (K × V)} (h : EntsF KE VE es cl l) : es.size = l.length := by
  have := congrArg List.length h.key
  simpa using this

theorem EntsF.upd {es : Array MapEntry} {cl : Nat} {l : List (K × V)} (h : EntsF KE VE es cl l) {k : K} {i : Nat} (hi : aidx l k = some i) (v : V) : EntsF KE VE (es.modify i fun e => { e with key := KE k, val := VE v }) cl (aset l k v) := by
  obtain ⟨h1, _, h3⟩ := aidx_some hi
  rw [h1]
  have hk : (l.map fun e => KE e.1)[i]? = some (KE k) := by
    have : ((l.map (·.1)).map KE)[i]? = some (KE k) := by rw [List.getElem?_map, h3]; rfl
    simpa [List.map_map] using this
  refine ⟨?_, ?_, ?_, ?_, ?_⟩
  · refine List.ext_getElem? fun j => ?_
    have hj : (es.toList.map (·.key))[j]? = (l.map fun e => KE e.1)[j]? := by rw [h.key]
    simp only [List.getElem?_map] at hj hk
    simp only [Array.toList_modify, List.getElem?_map, List.getElem?_modify, List.getElem?_set]
    by_cases hij : i = j
    · subst hij
      have hlt : i < l.length := by
        rcases Nat.lt_or_ge i l.length with h | h
        · exact h
        · rw [List.getElem?_eq_none h] at hk; cases hk
      have hlt2 : i < es.size := by rw [h.len]; exact hlt
      simp [hlt, hlt2]
    · simp only [hij, if_false]
      rw [← hj]
      cases es.toList[j]? <;> simp
  · refine List.ext_getElem? fun j => ?_
    have hj := h.get j
    simp only [Array.toList_modify, List.getElem?_map, List.getElem?_modify, List.getElem?_set]
    by_cases hij : i = j
    · subst hij
      have hlt : i < l.length := by
        rcases Nat.lt_or_ge i l.length with h | h
        · exact h
        · rw [List.getElem?_eq_none (by simpa using h)] at hk; cases hk
      have hlt2 : i < es.size := by rw [h.len]; exact hlt
      simp [hlt, hlt2]
    · simp only [hij, if_false]
      rw [← hj]
      cases es.toList[j]? <;> simp
  · have : (l.set i (k, v)).map (·.1) = l.map (·.1) := by
      rw [List.map_set]
      exact List.ext_getElem? fun j => by
        rw [List.getElem?_set]
        by_cases hij : i = j
        · subst hij; simp only [if_true]; split
          · exact h3.symm
          · rename_i hn; exact (List.getElem?_eq_none (by omega)).symm
        · simp [hij]
    rw [this]; exact h.nodup
  · intro x hx
    rw [Array.toList_modify] at hx
    obtain ⟨j, hj⟩ := List.getElem?_of_mem hx
    rw [List.getElem?_modify] at hj
    obtain ⟨e, he, hx'⟩ := Option.map_eq_some_iff.1 hj
    have := h.born.1 e (List.mem_of_getElem? he)
    split at hx' <;> (subst hx'; exact this)
  · have : (es.modify i fun e => { e with key := KE k, val := VE v }).toList.map (·.born) = es.toList.map (·.born) := by
      rw [Array.toList_modify]
      refine List.ext_getElem? fun j => ?_
      simp only [List.getElem?_map, List.getElem?_modify]
      cases es.toList[j]? with
      | none => rfl
      | some e => simp only [Option.map_some]; split <;> rfl
    rw [this]; exact h.born.2
theorem EntsF.push {es : Array MapEntry} {cl : Nat} {l : List (K × V)} (h : EntsF KE VE es cl l) {k : K} (hi : aidx l k = none) (v : V) : EntsF KE VE (es.push { key := KE k, val := VE v, born := cl }) (cl + 1) (aset l k v) := by
  obtain ⟨h1, _, h3⟩ := aidx_none hi
  rw [h1]
  refine ⟨by simp [h.key], by simp [h.val], ?_, fun x hx => ?_, ?_⟩
  · rw [List.map_append]
    refine List.nodup_append.2 ⟨h.nodup, by simp, fun a ha b hb => ?_⟩
    simp only [List.map_cons, List.map_nil, List.mem_singleton] at hb
    subst hb; exact fun e => h3 (e ▸ ha)
  · simp only [Array.toList_push, List.mem_append, List.mem_singleton] at hx
    rcases hx with hx | hx
    · exact Nat.lt_succ_of_lt (h.born.1 x hx)
    · subst hx; exact Nat.lt_succ_self _
  · simp only [Array.toList_push, List.map_append, List.map_cons, List.map_nil]
    refine List.nodup_append.2 ⟨h.born.2, by simp, fun a ha b hb => ?_⟩
    simp only [List.mem_singleton] at hb
    subst hb
    obtain ⟨x, hx, rfl⟩ := List.mem_map.1 ha
    exact Nat.ne_of_lt (h.born.1 x hx)
theorem EntsF.del {es : Array MapEntry} {cl : Nat} {l : List (K × V)} (h : EntsF KE VE es cl l) {k : K} {i : Nat} (hi : aidx l k = some i) : EntsF KE VE (es.eraseIdxIfInBounds i) cl (adel l k) := by
  obtain ⟨_, h1, _⟩ := aidx_some hi
  rw [h1]
  have he : (es.eraseIdxIfInBounds i).toList = es.toList.eraseIdx i := by
    unfold Array.eraseIdxIfInBounds
    split
    · rw [Array.toList_eraseIdx]
    · rename_i hn; rw [List.eraseIdx_of_length_le (by simpa using hn)]
  have hme : ∀ {α β : Type} (f : α → β) (l : List α) (i : Nat), (l.eraseIdx i).map f = (l.map f).eraseIdx i := fun f l i => by
    induction l generalizing i with
    | nil => rfl
    | cons a l ih => cases i with
      | zero => rfl
      | succ i => simp [ih]
  refine ⟨by rw [he, hme, hme, h.key], by rw [he, hme, hme, h.val], by rw [hme]; exact h.nodup.sublist (List.eraseIdx_sublist _ _), fun x hx => h.born.1 x ((List.eraseIdx_sublist _ _).subset (he ▸ hx)), by rw [he, hme]; exact h.born.2.sublist (List.eraseIdx_sublist _ _)⟩

/-! ### what is written -/
theorem S_mapF (hM : SH F w0 w L) (i : Nat) (hc : nth L i = some (.mpf r KE VE m)) (hk : KeyT P kt KE) (hu : P.underlying t = some (.map kt et)) (hx : ev φ x = .map r) {k : K} (hy : ev φ y = KE k) {v : V} (hz : ev φ z = VE v) (hn : m.isSome = true) :
    EXs P φ ⟨d, .mapUpdate t x y z, ty, ps, af, g⟩ w fun w' => SH F w0 w' (put L i (.mpf r KE VE (mset m k v))) ∧ Keeps (Ck.mpf r KE VE m).f w w' := by
  rcases hM.mpf i hc with ⟨h0, h1⟩ | ⟨b', l, es, cl, h0, h1, hg, he⟩
  · subst h1; cases hn
  · subst h0; subst h1
    have hf := hk.find w k es.toList l he.key
    rw [he.at_] at hf
    have fin : ∀ es' cl', EntsF KE VE es' cl' (aset l k v) → (execOp (ev φ) ⟨d, .mapUpdate t x y z, ty, ps, af, g⟩).run P w = .ok .skip { w with heap := w.heap.setIfInBounds b' (.map es' cl') } →
        ∃ w', (execOp (ev φ) ⟨d, .mapUpdate t x y z, ty, ps, af, g⟩).run P w = .ok .skip w' ∧ SH F w0 w' (put L i (.mpf (some b') KE VE (mset (some l) k v))) ∧ Keeps (Ck.mpf (some b') KE VE (some l)).f w w' := fun es' cl' hE hr => by
      obtain ⟨h3, h4⟩ := MapKept.heap_set (o' := .map es' cl') hg
      have hK : Keeps (Ck.mpf (some b') KE VE (some l)).f w { w with heap := w.heap.setIfInBounds b' (.map es' cl') } := ⟨rfl, rfl, rfl, by simp, fun k _ hk => h4 k fun e => hk (by rw [e]; rfl)⟩
      exact ⟨_, hr, hM.upd hc hK (c' := .mpf (some b') KE VE (mset (some l) k v)) (.inr ⟨b', aset l k v, es', cl', rfl, rfl, h3, hE⟩) (fun k hk => .inl hk) (fun k hk => hk.elim), hK⟩
    cases hj : aidx l k with
    | none =>
      rw [hj] at hf; simp only [Option.bind_none] at hf
      refine fin _ _ (he.push hj v) ?_
      simp [execOp, hx, hy, hz, Instr.mapUpdate, run_underlying hu, MapKept.run_getObj_map hg, hk.chk, hf, Result.andThen, MapKept.run_setObj_map _ hg]
    | some j =>
      rw [hj] at hf; simp only [Option.bind_some] at hf
      have h3 := (aidx_some hj).2.2
      have hjl : j < l.length := by
        rcases Nat.lt_or_ge j l.length with h | h
        · exact h
        · rw [List.getElem?_eq_none (by simpa using h)] at h3; cases h3
      have hje : j < es.size := by rw [he.len]; exact hjl
      rw [List.getElem?_eq_getElem hjl] at hf; simp only [Option.map_some] at hf
      have hkey : es[j].key = KE k := by
        have h4 : (es.toList.map (·.key))[j]? = (l.map fun e => KE e.1)[j]? := by rw [he.key]
        have h5 : (l.map fun e => KE e.1)[j]? = some (KE k) := by
          have : ((l.map (·.1)).map KE)[j]? = some (KE k) := by rw [List.getElem?_map, h3]; rfl
          simpa [List.map_map] using this
        rw [h5, List.getElem?_map, List.getElem?_eq_getElem (by simpa using hje)] at h4
        simpa using h4
      refine fin _ _ (he.upd hj v) ?_
      have hst : (Instr.keyThatStays (((es[j]?).map (·.key)).getD (KE k)) (KE k)).run P w = .ok (KE k) w := by
        rw [Array.getElem?_eq_getElem hje]
        simp [hkey, Instr.keyThatStays, hk.bits]
      simp [execOp, hx, hy, hz, Instr.mapUpdate, run_underlying hu, MapKept.run_getObj_map hg, hk.chk, hf, Result.andThen, MapKept.run_setObj_map _ hg, hst]
theorem S_delF (hM : SH F w0 w L) (i : Nat) (hc : nth L i = some (.mpf r KE VE m)) (hk : KeyT P kt KE) {t' : TypeId} (hu : P.underlying t = some (.map kt et)) (hx : ev φ x = .map r) {k : K} (hy : ev φ y = KE k) :
    EX P φ ⟨d, .call ⟨.builtin .delete, #[x, y], #[t, t']⟩, ty, ps, af, g⟩ w fun v w' => v = .tuple #[] ∧ SH F w0 w' (put L i (.mpf r KE VE (mdel m k))) ∧ Keeps (Ck.mpf r KE VE m).f w w' := by
  rcases hM.mpf i hc with ⟨h0, h1⟩ | ⟨b', l, es, cl, h0, h1, hg, he⟩
  · subst h0; subst h1
    refine ⟨_, w, ?_, rfl, hM.upd hc (Keeps.refl _ _) (c' := .mpf none KE VE (mdel none k)) (.inl ⟨rfl, rfl⟩) (fun k hk => .inl hk) (fun k hk => hk.elim), Keeps.refl _ _⟩
    simp [execOp, resolve, hx, hy, invoke, builtin, Builtin.delete_, run_underlying hu, hk.chk, Result.andThen]
  · subst h0; subst h1
    have hf := hk.find w k es.toList l he.key
    rw [he.at_] at hf
    have fin : ∀ es', EntsF KE VE es' cl (adel l k) → (execOp (ev φ) ⟨d, .call ⟨.builtin .delete, #[x, y], #[t, t']⟩, ty, ps, af, g⟩).run P w = .ok (.value (.tuple #[])) { w with heap := w.heap.setIfInBounds b' (.map es' cl) } →
        ∃ v w', (execOp (ev φ) ⟨d, .call ⟨.builtin .delete, #[x, y], #[t, t']⟩, ty, ps, af, g⟩).run P w = .ok (.value v) w' ∧ v = .tuple #[] ∧ SH F w0 w' (put L i (.mpf (some b') KE VE (mdel (some l) k))) ∧ Keeps (Ck.mpf (some b') KE VE (some l)).f w w' := fun es' hE hr => by
      obtain ⟨h3, h4⟩ := MapKept.heap_set (o' := .map es' cl) hg
      have hK : Keeps (Ck.mpf (some b') KE VE (some l)).f w { w with heap := w.heap.setIfInBounds b' (.map es' cl) } := ⟨rfl, rfl, rfl, by simp, fun k _ hk => h4 k fun e => hk (by rw [e]; rfl)⟩
      exact ⟨_, _, hr, rfl, hM.upd hc hK (c' := .mpf (some b') KE VE (mdel (some l) k)) (.inr ⟨b', adel l k, es', cl, rfl, rfl, h3, hE⟩) (fun k hk => .inl hk) (fun k hk => hk.elim), hK⟩
    cases hj : aidx l k with
    | none =>
      rw [hj] at hf; simp only [Option.bind_none] at hf
      refine fin es (by rw [(aidx_none hj).2.1]; exact he) ?_
      simp [execOp, resolve, hx, hy, invoke, builtin, Builtin.delete_, run_underlying hu, MapKept.run_getObj_map hg, hk.chk, hf, Result.andThen, MapKept.run_setObj_map _ hg]
    | some j =>
      rw [hj] at hf; simp only [Option.bind_some] at hf
      have h3 := (aidx_some hj).2.2
      have hjl : j < l.length := by
        rcases Nat.lt_or_ge j l.length with h | h
        · exact h
        · rw [List.getElem?_eq_none (by simpa using h)] at h3; cases h3
      rw [List.getElem?_eq_getElem hjl] at hf; simp only [Option.map_some] at hf
      refine fin _ (he.del hj) ?_
      simp [execOp, resolve, hx, hy, invoke, builtin, Builtin.delete_, run_underlying hu, MapKept.run_getObj_map hg, hk.chk, hf, Result.andThen, MapKept.run_setObj_map _ hg]
omit [DecidableEq K] in
theorem S_makeMapF (hM : SH F w0 w L) (KE : K → Value) (VE : V → Value) : EX P φ ⟨d, .makeMap t none, ty, ps, af, g⟩ w fun v w' => ∃ B, v = .map (some B) ∧ SH F w0 w' (.mpf (some B) KE VE mnew :: L) ∧ Keeps none_ w w' := by
  refine ⟨.map (some w.heap.size), w.alloc (.map #[] 0), ?_, w.heap.size, rfl, hM.add (Keeps.alloc _ _ _) (c' := .mpf (some w.heap.size) KE VE mnew) (.inr ⟨_, [], #[], 0, rfl, rfl, At.new _ _, ⟨rfl, rfl, by simp, by simp, by simp⟩⟩) (fun k hk => by cases hk; exact Nat.le_refl _) (fun k hk => hk.elim), Keeps.alloc _ _ _⟩
  simp [execOp, Instr.makeMap, newObj]
  rfl
end
end Go.Hw
