/- The law of the rota in plain words. -/
import Derived.Test.YtjahbhpcaenllaaHwRotaLaw1
namespace Md
open Go Go.Hw

/-! ### rows -/
def mk9 (a b : List Span) (kind : Int) : List Span := makeS (cnd a b kind) (bnds (a ++ b)) []
def pstep (c : Int) (acc : List Span) (o : Law68_Op) : List Span :=
  if o.Car = c then (if o.S.To ≤ o.S.From then acc else bif o.In then acc.flatMap (subS o.S) else mergeS (acc ++ [o.S])) else acc
def rowS (ops : List Law68_Op) (c : Int) : List Span := ops.foldl (pstep c) []
theorem pstep_spec (c : Int) {acc : List Span} (o : Law68_Op) (h : Rt acc) : Rt (pstep c acc o) ∧ (pstep c acc o).length ≤ 2 * acc.length + 1 := by
  unfold pstep
  split
  · split
    · exact ⟨h, by omega⟩
    · rename_i hs
      cases o.In
      · simp only [bif_f]
        exact ⟨(mergeS_spec _).1, by have := mergeS_len (acc ++ [o.S]); rw [List.length_append, List.length_singleton] at this; omega⟩
      · simp only [bif_t]
        exact ⟨(sub_right o.S (by omega) h).1, by have := sub_len o.S acc; omega⟩
  · exact ⟨h, by omega⟩
theorem foldl_pstep (c : Int) : ∀ (l : List Law68_Op) (acc : List Span), Rt acc → Rt (l.foldl (pstep c) acc) ∧ (l.foldl (pstep c) acc).length + 1 ≤ (acc.length + 1) * 2 ^ l.length
  | [], acc, h => ⟨h, by simp⟩
  | o :: l, acc, h => by
    obtain ⟨h1, h2⟩ := pstep_spec c o h
    obtain ⟨h3, h4⟩ := foldl_pstep c l _ h1
    refine ⟨h3, Nat.le_trans h4 ?_⟩
    rw [List.length_cons, Nat.pow_succ, Nat.mul_comm (2 ^ l.length) 2, ← Nat.mul_assoc]
    exact Nat.mul_le_mul_right _ (by omega)
theorem rowS_spec (ops : List Law68_Op) (c : Int) (h : ops.length ≤ 20) : Rt (rowS ops c) ∧ (rowS ops c).length < 1048576 := by
  obtain ⟨h1, h2⟩ := foldl_pstep c ops [] Rt.nil
  refine ⟨h1, ?_⟩
  have h3 : 2 ^ ops.length ≤ 2 ^ 20 := Nat.pow_le_pow_right (by omega) h
  show (ops.foldl (pstep c) []).length < _
  simp only [List.length_nil] at h2
  omega
theorem rowS_snoc (ops : List Law68_Op) (o : Law68_Op) (c : Int) : rowS (ops ++ [o]) c = pstep c (rowS ops c) o := by
  unfold rowS; rw [List.foldl_append]; rfl
theorem beq_mem {a b : List Span} (ha : Rt a) (hb : Rt b) (h : ∀ n, memS a n = memS b n) : a = b := right_ext ha hb fun n => by rw [h n]
/-- the reference's step is the program's -/
theorem mk_in {acc : List Span} (s : Span) (h : Rt acc) : mk9 acc [s] 2 = if s.To ≤ s.From then acc else acc.flatMap (subS s) := by
  obtain ⟨h1, h2⟩ := make_spec acc [s] 2
  have h3 : ∀ n, memS (mk9 acc [s] 2) n = true ↔ memS acc n = true ∧ ¬ memS [s] n = true := fun n => by
    rw [show memS (mk9 acc [s] 2) n = cnd acc [s] 2 n from h2 n]
    unfold cnd
    rw [decide_eq_true rfl, decide_eq_false (by decide)]
    simp only [bif_t, bif_f]
    cases memS acc n <;> cases memS [s] n <;> simp
  split
  · refine right_ext h1 h fun n => ?_
    rw [h3 n, memS_one]
    exact ⟨fun h' => h'.1, fun h' => ⟨h', by omega⟩⟩
  · obtain ⟨h4, h5⟩ := sub_right s (by omega) h
    refine right_ext h1 h4 fun n => ?_
    rw [h3 n, h5 n, memS_one]
theorem mk_merge (l : List Span) : mk9 l [] 0 = mergeS l := by
  obtain ⟨h1, h2⟩ := make_spec l [] 0
  refine right_ext h1 (mergeS_spec _).1 fun n => ?_
  rw [(mergeS_spec _).2 n, show memS (mk9 l [] 0) n = cnd l [] 0 n from h2 n]
  unfold cnd
  rw [decide_eq_false (by decide), decide_eq_false (by decide)]
  rfl
theorem mk_out {acc : List Span} (s : Span) (h : Rt acc) : mk9 (acc ++ [s]) [] 0 = if s.To ≤ s.From then acc else mergeS (acc ++ [s]) := by
  rw [mk_merge]
  split
  · refine right_ext (mergeS_spec _).1 h fun n => ?_
    rw [(mergeS_spec _).2 n, memS_append, memS_one]
    exact ⟨fun h' => h'.resolve_right (by omega), .inl⟩
  · rfl
/-! ### the reference's rows -/
theorem row_loop (ops : List Law68_Op) (c : Int) (h20 : ops.length ≤ 20) : ∀ (rest pre : List Law68_Op) (acc : List Span) (k : Nat), ops = pre ++ rest → rest.length < k → Rt acc → acc.length + 1 ≤ 2 ^ pre.length →
    law68_row_l1 ops c k acc (pre.length : Int) = some (rest.foldl (pstep c) acc)
  | _, _, _, 0, _, hk, _, _ => absurd hk (Nat.not_lt_zero _)
  | [], pre, acc, k + 1, he, _, _, _ => by
    show law68_row_l1_b _ _ _ _ _ = _
    unfold law68_row_l1_b
    rw [he, lt_end, bif_f]; rfl
  | o :: rest, pre, acc, k + 1, he, hk, hr, hl => by
    show law68_row_l1_b _ _ _ _ _ = _
    unfold law68_row_l1_b
    have h3 : pre.length + rest.length + 1 ≤ 20 := by rw [he] at h20; simpa [Nat.add_assoc] using h20
    have h4 : 2 ^ pre.length ≤ 2 ^ 20 := Nat.pow_le_pow_right (by omega) (by omega)
    obtain ⟨p1, p2⟩ := pstep_spec c o hr
    have ih := row_loop ops c h20 rest (pre ++ [o]) (pstep c acc o) k (by rw [he, snoc_eq]) (by simp at hk; omega) p1 (by
      rw [List.length_append, List.length_singleton, Nat.pow_succ]; omega)
    rw [List.length_append, List.length_singleton] at ih
    rw [he] at ih ⊢
    rw [lt_mid, bif_t, idx_mid, Option.bind_some, w64_nat (by omega), List.foldl_cons]
    by_cases hc : o.Car = c
    · rw [decide_eq_true hc]
      have hp : pstep c acc o = if o.S.To ≤ o.S.From then acc else bif o.In then acc.flatMap (subS o.S) else mergeS (acc ++ [o.S]) := by unfold pstep; rw [if_pos hc]
      cases hi : o.In
      · rw [hi, bif_f] at hp
        simp only [Bool.not_true, bif_f, List.nil_append]
        unfold chk
        rw [if_pos (by unfold fits; omega), if_pos (by unfold fits; rw [List.length_append, List.length_singleton]; omega)]
        rw [make_eq _ _ _ (by simp; omega), Option.bind_some, show makeS (cnd (acc ++ [o.S]) [] 0) (bnds (acc ++ [o.S] ++ [])) [] = mk9 (acc ++ [o.S]) [] 0 from rfl, mk_out o.S hr, ← hp]
        exact ih
      · rw [hi, bif_t] at hp
        simp only [Bool.not_true, bif_f, bif_t]
        rw [make_eq _ _ _ (by simp; omega), Option.bind_some, show makeS (cnd acc [o.S] 2) (bnds (acc ++ [o.S])) [] = mk9 acc [o.S] 2 from rfl, mk_in o.S hr, ← hp]
        exact ih
    · rw [decide_eq_false hc]
      have hp : pstep c acc o = acc := by unfold pstep; rw [if_neg hc]
      rw [hp] at ih ⊢
      exact ih
theorem row_eq (ops : List Law68_Op) (c : Int) (h : ops.length ≤ 20) : law68_row ops c = some (rowS ops c) :=
  row_loop ops c h ops [] [] N0 rfl (by unfold N0; omega) Rt.nil (by simp)
/-! ### the rota's map -/
structure Inv (m : Mp Int (List Span)) (ops : List Law68_Op) : Prop where
  row : ∀ c, (mget m c).getD [] = rowS ops c
  nd : MNd m
theorem Inv.start : Inv none [] := ⟨fun _ => rfl, MNd.none⟩
theorem Inv.new : Inv mnew [] := ⟨fun _ => rfl, MNd.new⟩
theorem rota_In_eq {m : Mp Int (List Span)} {ops : List Law68_Op} (h : Inv m ops) (h20 : ops.length ≤ 20) (o : Law68_Op) (ho : o.In = true) :
    ∃ m', rota_In (Rota_Rota.mk m) o.Car o.S = some (Rota_Rota.mk m') ∧ Inv m' (ops ++ [o]) := by
  unfold rota_In
  obtain ⟨hr, hl⟩ := rowS_spec ops o.Car h20
  by_cases hs : o.S.To ≤ o.S.From
  · rw [decide_eq_true hs]
    refine ⟨m, rfl, fun c => ?_, h.nd⟩
    rw [rowS_snoc, h.row c]; unfold pstep; rw [if_pos hs, ite_self]
  · rw [decide_eq_false hs]
    simp only [bif_f]
    rw [h.row, sub_eq _ _ (by omega), Option.bind_some]
    have hp : ∀ c, pstep c (rowS ops c) o = if o.Car = c then (rowS ops o.Car).flatMap (subS o.S) else rowS ops c := fun c => by
      unfold pstep
      by_cases hc : o.Car = c
      · subst hc; rw [if_pos rfl, if_pos rfl, if_neg hs, ho, bif_t]
      · rw [if_neg hc, if_neg hc]
    by_cases hn : (((rowS ops o.Car).flatMap (subS o.S)).length : Int) = 0
    · rw [decide_eq_true hn]
      refine ⟨_, rfl, fun c => ?_, h.nd.del _⟩
      rw [mget_mdel h.nd, rowS_snoc, hp c]
      split
      · exact (List.eq_nil_of_length_eq_zero (by omega)).symm
      · exact h.row c
    · rw [decide_eq_false hn]
      simp only [bif_f]
      have hm : m.isSome = true := by
        cases hm : m with
        | some _ => rfl
        | none =>
          exfalso; refine hn ?_
          rw [← h.row o.Car, hm]; rfl
      unfold chk
      rw [if_pos hm]
      refine ⟨_, rfl, fun c => ?_, h.nd.set _ _⟩
      rw [mget_mset hm, rowS_snoc, hp c]
      split
      · rfl
      · exact h.row c
theorem rota_Out_eq {m : Mp Int (List Span)} {ops : List Law68_Op} (h : Inv m ops) (h20 : ops.length ≤ 20) (o : Law68_Op) (ho : o.In = false) :
    ∃ m', rota_Out (Rota_Rota.mk m) o.Car o.S = some (Rota_Rota.mk m') ∧ Inv m' (ops ++ [o]) := by
  unfold rota_Out
  by_cases hs : o.S.To ≤ o.S.From
  · rw [decide_eq_true hs]
    refine ⟨m, rfl, fun c => ?_, h.nd⟩
    rw [rowS_snoc, h.row c]; unfold pstep; rw [if_pos hs, ite_self]
  · rw [decide_eq_false hs]
    simp only [bif_f]
    have hj : ∀ m : Mp Int (List Span), m.isSome = true → Inv m ops → ∃ m', rota_Out_j1 o.Car o.S m = some (Rota_Rota.mk m') ∧ Inv m' (ops ++ [o]) := fun m hm h => by
      unfold rota_Out_j1
      obtain ⟨hr, hl⟩ := rowS_spec ops o.Car h20
      rw [h.row]
      unfold chk
      rw [if_pos (by unfold fits; rw [List.length_append, List.length_singleton]; omega), merge_eq _ (by rw [List.length_append, List.length_singleton]; omega), Option.bind_some, if_pos hm]
      refine ⟨_, rfl, fun c => ?_, h.nd.set _ _⟩
      rw [mget_mset hm, rowS_snoc]
      unfold pstep
      by_cases hc : o.Car = c
      · subst hc; rw [if_pos rfl, if_pos rfl, if_neg hs, ho, bif_f]; rfl
      · rw [if_neg hc, if_neg hc]; exact h.row c
    cases hm : m with
    | none =>
      refine hj mnew rfl ⟨fun c => ?_, MNd.new⟩
      rw [← h.row c, hm]; rfl
    | some a => subst hm; exact hj (some a) rfl h
/-! ### the last part -/
theorem alive_eq : law68_alive = some true := by
  unfold law68_alive
  obtain ⟨m, h1, h2⟩ := rota_Out_eq Inv.start (by simp) ⟨false, 0, ⟨5, 9⟩⟩ rfl
  rw [show rota_Out (Rota_Rota.mk none) 0 (Span.mk 5 9) = _ from h1, Option.bind_some]
  have hr : ∀ c, rowS ([] ++ [(⟨false, 0, ⟨5, 9⟩⟩ : Law68_Op)]) c = if 0 = c then [⟨5, 9⟩] else [] := fun c => by
    rw [rowS_snoc]
    show pstep c [] _ = _
    unfold pstep
    show (if (0 : Int) = c then (if (9 : Int) ≤ 5 then [] else mergeS [⟨5, 9⟩]) else []) = _
    rw [if_neg (by decide : ¬ (9 : Int) ≤ 5)]
    split
    · exact right_ext (mergeS_spec _).1 ⟨by simp, by simp⟩ (mergeS_spec _).2
    · rfl
  have r0 : (mget m 0).getD [] = [⟨5, 9⟩] := by rw [h2.row, hr, if_pos rfl]
  have r1 : (mget m 1).getD [] = [] := by rw [h2.row, hr, if_neg (by decide)]
  rw [back_eq m 0 6 _ r0 (by simp), serves_eq m 0 8 _ r0 ⟨by simp, by simp⟩ (by simp), serves_eq m 1 8 _ r1 Rt.nil (by simp)]
  rfl
section
variable (R : Int → List Span) (t : Int)
def andN : Nat → Nat → List Span → List Span
  | 0, _, acc => acc
  | d + 1, i, acc => andN d (i + 1) (andS (acc.length + (R i).length + 1) acc (R i))
def cntN : Nat → Nat → Nat → Nat
  | 0, _, c => c
  | d + 1, i, c => cntN d (i + 1) (bif !memS (R i) t then c + 1 else c)

variable {R : Int → List Span} {t : Int}
theorem many_loop {m : Mp Int (List Span)} (hm : ∀ c, (mget m c).getD [] = R c) (hR : ∀ c, Rt (R c) ∧ (R c).length < 1048576) (cars : Int) (M : Nat) (hM : M = (mn cars 16).toNat) (h16 : M ≤ 16) :
    ∀ (d i c k : Nat), i + d = M → d < k → c ≤ i → rota_Many_l1 (Rota_Rota.mk m) cars t k (c : Int) (i : Int) = some ((cntN R t d i c : Nat) : Int)
  | _, _, _, 0, _, hk, _ => absurd hk (Nat.not_lt_zero _)
  | 0, i, c, k + 1, hi, _, _ => by
    show rota_Many_l1_b _ _ _ _ _ _ = _
    unfold rota_Many_l1_b
    rw [decide_eq_false (by omega : ¬ (i : Int) < mn cars 16)]; rfl
  | d + 1, i, c, k + 1, hi, hk, hc => by
    show rota_Many_l1_b _ _ _ _ _ _ = _
    unfold rota_Many_l1_b
    rw [decide_eq_true (by omega : (i : Int) < mn cars 16), bif_t, serves_eq m _ _ _ (hm _) (hR _).1 (by have := (hR (i : Int)).2; omega), Option.bind_some, w64_nat (by omega), w64_nat (by omega)]
    show (bif !memS (R i) t then _ else _) = some ((cntN R t d (i + 1) (bif !memS (R i) t then c + 1 else c) : Nat) : Int)
    cases memS (R i) t
    · exact many_loop hm hR cars M hM h16 d (i + 1) (c + 1) k (by omega) (by omega) (by omega)
    · exact many_loop hm hR cars M hM h16 d (i + 1) c k (by omega) (by omega) (by omega)
theorem and_step {acc : List Span} (ha : Rt acc) (hR : ∀ c, Rt (R c) ∧ (R c).length < 1048576) (i : Nat) (hl : acc.length ≤ 1 + i * 1048576) :
    Rt (andS (acc.length + (R i).length + 1) acc (R i)) ∧ (andS (acc.length + (R i).length + 1) acc (R i)).length ≤ 1 + (i + 1) * 1048576 ∧ mk9 acc (R i) 1 = andS (acc.length + (R i).length + 1) acc (R i) := by
  obtain ⟨h1, h2, h3, _⟩ := andS_spec (acc.length + (R i).length + 1) (Nat.lt_succ_self _) ha (hR i).1
  refine ⟨h1, by have := (hR (i : Int)).2; omega, ?_⟩
  obtain ⟨h4, h5⟩ := make_spec acc (R i) 1
  refine right_ext h4 h1 fun n => ?_
  rw [h2 n, show memS (mk9 acc (R i) 1) n = cnd acc (R i) 1 n from h5 n]
  unfold cnd
  rw [decide_eq_true rfl, decide_eq_false (by decide)]
  simp only [bif_t, bif_f]
  cases memS acc n <;> simp
theorem none_loop {m : Mp Int (List Span)} (hm : ∀ c, (mget m c).getD [] = R c) (hR : ∀ c, Rt (R c) ∧ (R c).length < 1048576) (cars : Int) (M : Nat) (hM : M = (mn cars 16).toNat) (h16 : M ≤ 16) :
    ∀ (d i k : Nat) (acc : List Span), i + d = M → d < k → Rt acc → acc.length ≤ 1 + i * 1048576 → rota_None_l1 (Rota_Rota.mk m) cars k acc (i : Int) = some (andN R d i acc)
  | _, _, 0, _, _, hk, _, _ => absurd hk (Nat.not_lt_zero _)
  | 0, i, k + 1, acc, hi, _, _, _ => by
    show rota_None_l1_b _ _ _ _ _ = _
    unfold rota_None_l1_b
    rw [decide_eq_false (by omega : ¬ (i : Int) < mn cars 16)]; rfl
  | d + 1, i, k + 1, acc, hi, hk, ha, hl => by
    show rota_None_l1_b _ _ _ _ _ = _
    unfold rota_None_l1_b
    obtain ⟨h1, h2, _⟩ := and_step ha hR i hl
    rw [decide_eq_true (by omega : (i : Int) < mn cars 16), bif_t, hm, and_eq acc (R i) (by have := (hR (i : Int)).2; omega), Option.bind_some, w64_nat (by omega)]
    exact none_loop hm hR cars M hM h16 d (i + 1) k _ (by omega) (by omega) h1 h2
theorem andN_len (hR : ∀ c, Rt (R c) ∧ (R c).length < 1048576) : ∀ (d i : Nat) (acc : List Span), Rt acc → acc.length ≤ 1 + i * 1048576 → (andN R d i acc).length ≤ 1 + (i + d) * 1048576
  | 0, i, acc, _, h => h
  | d + 1, i, acc, ha, hl => by
    obtain ⟨h1, h2, _⟩ := and_step ha hR i hl
    have := andN_len hR d (i + 1) _ h1 h2
    rw [show i + (d + 1) = i + 1 + d by omega]; exact this
theorem last_loop {ops : List Law68_Op} (h20 : ops.length ≤ 20) (a : Law68_At) {m : Mp Int (List Span)} (hm : ∀ c, (mget m c).getD [] = rowS ops c) (M C : Nat) (A : List Span) (hM : M = (mn a.Cars 16).toNat) (h16 : M ≤ 16)
    (hC : rota_Many (Rota_Rota.mk m) a.Cars a.Tick = some (C : Int)) (hA : rota_None (Rota_Rota.mk m) a.Cars a.Of = some A) (hAl : A.length < 104857600) :
    ∀ (d i c k : Nat) (acc : List Span), i + d = M → d < k → c ≤ i → Rt acc → acc.length ≤ 1 + i * 1048576 → cntN (rowS ops) a.Tick d i c = C → andN (rowS ops) d i acc = A →
    law68_RotaPlays_l4 ops a m (rowS ops a.Car) (backF (rowS ops a.Car) a.Tick) k (c : Int) acc (i : Int) = some true
  | _, _, _, 0, _, _, hk, _, _, _, _, _ => absurd hk (Nat.not_lt_zero _)
  | 0, i, c, k + 1, acc, hi, _, _, _, _, h1, h2 => by
    show law68_RotaPlays_l4_b _ _ _ _ _ _ _ _ _ = _
    unfold law68_RotaPlays_l4_b
    have hf : (bif decide ((i : Int) < a.Cars) then decide ((i : Int) < 16) else false) = false := by
      by_cases h : (i : Int) < a.Cars
      · rw [decide_eq_true h, bif_t, decide_eq_false]
        unfold mn at hM; split at hM <;> omega
      · rw [decide_eq_false h, bif_f]
    rw [hf, bif_f]
    obtain ⟨hr, hl⟩ := rowS_spec ops a.Car h20
    rw [serves_eq m _ _ _ (hm _) hr (by omega), has_ref _ _ (by omega), back_eq m _ _ _ (hm _) (by omega), hC, hA, alive_eq]
    have h1' : c = C := h1
    have h2' : acc = A := h2
    subst h1' h2'
    simp only [Option.bind_some, beq_self_eq_true, gI, bif_t, decide_true, equal_eq acc hAl]
  | d + 1, i, c, k + 1, acc, hi, hk, hc, ha, hl, h1, h2 => by
    show law68_RotaPlays_l4_b _ _ _ _ _ _ _ _ _ = _
    unfold law68_RotaPlays_l4_b
    have hf : (bif decide ((i : Int) < a.Cars) then decide ((i : Int) < 16) else false) = true := by
      have : (i : Int) < a.Cars ∧ (i : Int) < 16 := by unfold mn at hM; split at hM <;> omega
      rw [decide_eq_true this.1, bif_t, decide_eq_true this.2]
    rw [hf, bif_t]
    have hR := fun c => rowS_spec ops c h20
    obtain ⟨g1, g2, g3⟩ := and_step ha hR i hl
    have hl2 := (hR (i : Int)).2
    rw [row_eq ops _ h20, Option.bind_some, has_ref _ _ (by omega), Option.bind_some, make_eq _ _ _ (by omega), Option.bind_some, Option.bind_some, w64_nat (by omega), w64_nat (by omega),
      show makeS (cnd acc (rowS ops i) 1) (bnds (acc ++ rowS ops i)) [] = mk9 acc (rowS ops i) 1 from rfl, g3]
    have h1' : cntN (rowS ops) a.Tick d (i + 1) (bif !memS (rowS ops i) a.Tick then c + 1 else c) = C := h1
    revert h1'
    cases memS (rowS ops i) a.Tick
    · exact fun h1' => last_loop h20 a hm M C A hM h16 hC hA hAl d (i + 1) (c + 1) k _ (by omega) (by omega) (by omega) g1 g2 h1' h2
    · exact fun h1' => last_loop h20 a hm M C A hM h16 hC hA hAl d (i + 1) c k _ (by omega) (by omega) (by omega) g1 g2 h1' h2
theorem back_loop2 (ops : List Law68_Op) (a : Law68_At) (m : Mp Int (List Span)) (l : List Span) (hl : l.length < 104857600) : ∀ (rest pre : List Span) (b : Int) (k : Nat), l = pre ++ rest → rest.length < k →
    law68_RotaPlays_l3 ops a m l k b (pre.length : Int) = law68_RotaPlays_l4 ops a m l (backG rest a.Tick b) N0 0 (mk9 [a.Of] [] 0) 0
  | _, _, _, 0, _, hk => absurd hk (Nat.not_lt_zero _)
  | [], pre, b, k + 1, he, _ => by
    show law68_RotaPlays_l3_b _ _ _ _ _ _ _ = _
    unfold law68_RotaPlays_l3_b
    rw [show decide ((pre.length : Int) < (l.length : Int)) = false by rw [he]; exact lt_end pre, bif_f, make_eq _ _ _ (by simp), Option.bind_some,
      show backG [] a.Tick b = b from rfl, show makeS (cnd [a.Of] [] 0) (bnds ([a.Of] ++ [])) [] = mk9 [a.Of] [] 0 from rfl]
  | x :: rest, pre, b, k + 1, he, hk => by
    show law68_RotaPlays_l3_b _ _ _ _ _ _ _ = _
    unfold law68_RotaPlays_l3_b
    have ih := fun b' => back_loop2 ops a m l hl rest (pre ++ [x]) b' k (by rw [he, snoc_eq]) (by simp at hk; omega)
    rw [List.length_append, List.length_singleton] at ih
    rw [show decide ((pre.length : Int) < (l.length : Int)) = true by rw [he]; exact lt_mid pre x rest, bif_t, show idx l (pre.length : Int) = some x by rw [he]; exact idx_mid pre x rest, Option.bind_some,
      w64_nat (by rw [he] at hl; simp at hl; omega), ih, ih]
    rw [show backG (x :: rest) a.Tick b = backG rest a.Tick (bif inS x a.Tick then x.To else b) from rfl,
      show (bif decide (x.From ≤ a.Tick) then decide (a.Tick < x.To) else false) = inS x a.Tick from rfl]
    cases inS x a.Tick
    · rw [bif_f, bif_f]
    · rw [bif_t, bif_t]
theorem end_eq {ops : List Law68_Op} (h20 : ops.length ≤ 20) (a : Law68_At) {m : Mp Int (List Span)} (h : Inv m ops) : ((law68_row ops a.Car).bind fun x => law68_RotaPlays_l3 ops a m x N0 a.Tick 0) = some true := by
  have hR := fun c => rowS_spec ops c h20
  rw [row_eq ops _ h20, Option.bind_some]
  have hl := (hR a.Car).2
  have e := back_loop2 ops a m (rowS ops a.Car) (by omega) (rowS ops a.Car) [] a.Tick N0 rfl (by unfold N0; omega)
  rw [show law68_RotaPlays_l3 ops a m (rowS ops a.Car) N0 a.Tick 0 = _ from e, backG_eq (hR a.Car).1, mk_merge]
  have h16 : (mn a.Cars 16).toNat ≤ 16 := by unfold mn; split <;> omega
  have hs := mergeS_spec [a.Of]
  have hsl := mergeS_len [a.Of]
  rw [List.length_singleton] at hsl
  have hC := many_loop (t := a.Tick) h.row hR a.Cars _ rfl h16 (mn a.Cars 16).toNat 0 0 N0 (by omega) (by unfold N0; omega) (Nat.le_refl _)
  have hA := none_loop h.row hR a.Cars _ rfl h16 (mn a.Cars 16).toNat 0 N0 (mergeS [a.Of]) (by omega) (by unfold N0; omega) hs.1 (by omega)
  have hAl := andN_len hR (mn a.Cars 16).toNat 0 (mergeS [a.Of]) hs.1 (by omega)
  refine last_loop h20 a h.row _ _ _ rfl h16 hC ?_ (by omega) (mn a.Cars 16).toNat 0 0 N0 (mergeS [a.Of]) (by omega) (by unfold N0; omega) (Nat.le_refl _) hs.1 (by omega) rfl rfl
  unfold rota_None
  rw [merge_eq _ (by simp), Option.bind_some]
  exact hA
theorem main_loop (ops : List Law68_Op) (h20 : ops.length ≤ 20) (a : Law68_At) : ∀ (rest pre : List Law68_Op) (m : Mp Int (List Span)) (k : Nat), ops = pre ++ rest → rest.length < k → Inv m pre →
    law68_RotaPlays_l1 ops a k m (pre.length : Int) = some true
  | _, _, _, 0, _, hk, _ => absurd hk (Nat.not_lt_zero _)
  | [], pre, m, k + 1, he, _, h => by
    show law68_RotaPlays_l1_b _ _ _ _ _ = _
    unfold law68_RotaPlays_l1_b
    rw [show decide ((pre.length : Int) < (ops.length : Int)) = false by rw [he]; exact lt_end pre, bif_f]
    have hp : ops = pre := by rw [he, List.append_nil]
    rw [← hp] at h
    exact end_eq h20 a h
  | o :: rest, pre, m, k + 1, he, hk, h => by
    show law68_RotaPlays_l1_b _ _ _ _ _ = _
    unfold law68_RotaPlays_l1_b
    have h3 : pre.length + rest.length + 1 ≤ 20 := by rw [he] at h20; simpa [Nat.add_assoc] using h20
    have hi : idx ops (pre.length : Int) = some o := by rw [he]; exact idx_mid pre o rest
    rw [show decide ((pre.length : Int) < (ops.length : Int)) = true by rw [he]; exact lt_mid pre o rest, bif_t, hi, Option.bind_some]
    have hj : ∀ m', Inv m' (pre ++ [o]) → law68_RotaPlays_j2 ops (pre.length : Int) (law68_RotaPlays_l1 ops a k) m' = some true := fun m' h' => by
      unfold law68_RotaPlays_j2
      have ih := main_loop ops h20 a rest (pre ++ [o]) m' k (by rw [he, snoc_eq]) (by simp at hk; omega) h'
      rw [List.length_append, List.length_singleton] at ih
      have ht : ops.take (((pre.length + 1 : Nat) : Int)).toNat = pre ++ [o] := by
        rw [he, snoc_eq, show (((pre.length + 1 : Nat) : Int)).toNat = (pre ++ [o]).length by simp, List.take_left]
      have hl := (rowS_spec (pre ++ [o]) o.Car (by simp; omega)).2
      rw [hi, Option.bind_some, w64_nat (by omega), ht]
      unfold chk
      rw [if_pos (by unfold inrle; rw [he]; simp; omega)]
      unfold rota_Spans
      dsimp only
      rw [h'.row, List.nil_append]
      unfold chk
      rw [if_pos (by unfold fits; omega), Option.bind_some, row_eq _ _ (by simp; omega), Option.bind_some, equal_eq _ (by omega), Option.bind_some]
      exact ih
    cases hin : o.In
    · rw [bif_f]
      obtain ⟨m', h1, h2⟩ := rota_Out_eq h (by omega) o hin
      rw [h1, Option.bind_some]; exact hj m' h2
    · rw [bif_t]
      obtain ⟨m', h1, h2⟩ := rota_In_eq h (by omega) o hin
      rw [h1, Option.bind_some]; exact hj m' h2
end
/-- the law holds, in plain words -/
theorem rotaPlays_true (ops : List Law68_Op) (a : Law68_At) : law68_RotaPlays ops a = some true := by
  unfold law68_RotaPlays
  by_cases h : (20 : Int) < (ops.length : Int)
  · rw [decide_eq_true h]; rfl
  · rw [decide_eq_false h, bif_f]
    exact main_loop ops (by omega) a ops [] none N0 rfl (by unfold N0; omega) Inv.start
end Md
