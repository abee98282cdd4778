/- The library's stable sort. -/
import Derived.Test.YtjahbhpcaenllaaHwTypes
import Derived.Test.YtjahbhpcaenllaaHwSortKit
namespace Hw.Sym
end Hw.Sym
namespace Go.Proofs
open Go.RowKit Go.Hw Hw.Sym
set_option maxRecDepth 10000 in
theorem swap_any (g n cap a b k : Nat) (cv : Value) (p u m v q : List Int) (rest : List Value) (w : World) (hn : n ≤ 1000000) (hl : (p ++ u ++ m ++ v ++ q).length = n) (hu : u.length = k) (hv : v.length = k) (ha : p.length = a) (hb : a + k + m.length = b) (hat : At w g (.cells (ints (p ++ u ++ m ++ v ++ q) ++ rest).toArray 3)) :
    Calls Try.prog 150 #[.slice (some ⟨g, 0, none⟩) n cap, .int .i64 (a : Nat), .int .i64 (b : Nat), .int .i64 (k : Nat), cv] w fun e w' => e = .returned (.tuple #[]) ∧ At w' g (.cells (ints (p ++ v ++ m ++ u ++ q) ++ rest).toArray 3) ∧ Keeps (· = g) w w' := by
  refine calls_of_RW Try.func150 rfl (Nat.le_of_ble_eq_true rfl) ?_
  refine RW.seq ?_
  refine RW.region ?_
  refine RL.opd (v := .int .i64 0) 10 rfl rfl rfl (X_assign rfl) ?_
  refine RL.nil ?_
  refine RW.block ?_
  refine RW.loop (fun gk φ wr => (φ 0 = .slice (some ⟨g, 0, none⟩) n cap ∧ φ 1 = .int .i64 (a : Nat) ∧ φ 2 = .int .i64 (b : Nat) ∧ φ 3 = .int .i64 (k : Nat)) ∧ ∃ (i : Nat), φ 10 = .int .i64 (i : Nat) ∧ i ≤ k ∧ gk + i = k ∧ At wr g (.cells (ints (swr p u m v q i) ++ rest).toArray 3) ∧ Keeps (· = g) w wr) k ?_ ?_
  · exact ⟨⟨rfl, rfl, rfl, rfl⟩, 0, rfl, Nat.zero_le _, rfl, (by rw [swr_zero]; exact hat), Keeps.refl _ _⟩
  · rintro gk1 φ wr1 ⟨⟨h_0, h_1, h_2, h_3⟩, i, h_10, hi, hgk, hat, hK⟩
    obtain ⟨φ0, rfl⟩ : ∃ φ0, φ = upd (upd (upd (upd (upd φ0 0 (.slice (some ⟨g, 0, none⟩) n cap)) 1 (.int .i64 (a : Nat))) 2 (.int .i64 (b : Nat))) 3 (.int .i64 (k : Nat))) 10 (.int .i64 (i : Nat)) := ⟨φ, by rw [upd_of h_0, upd_of h_1, upd_of h_2, upd_of h_3, upd_of h_10]⟩
    clear h_0 h_1 h_2 h_3 h_10
    have hsz := hK.size
    refine RW.seq ?_
    refine RW.seq ?_
    refine RW.region ?_
    refine RL.opd (v := .int .i64 (i : Nat)) 11 rfl rfl rfl (X_move rfl) ?_
    refine RL.opd (v := .int .i64 (k : Nat)) 12 rfl rfl rfl (X_move rfl) ?_
    refine RL.opd (v := .bool (decide (((i : Nat) : Int) < (k : Nat)))) 13 rfl rfl rfl (X_lss rfl rfl) ?_
    refine RL.nil ?_
    refine RW.cond rfl (fun hlt => ?_) (fun hlt => ?_)
    · -- slot 13: True
      refine RW.skip ?_
      refine RW.seq ?_
      refine RW.block ?_
      have hlt := of_decide_eq_true hlt
      have hlt : i < k := by omega
      have hln := swr_len (p := p) (m := m) (q := q) hu hv hi
      have hln2 : (p ++ u ++ m ++ v ++ q).length = p.length + u.length + m.length + v.length + q.length := by simp; omega
      generalize hys : swr p u m v q i = ys at hat hln
      refine RW.drawKU 21 Try.mixed (fun w1 hw2 hcl hS => ?_)
      have K3 : Keeps none_ wr1 w1 := by rw [hw2]; exact Keeps.drew _ _
      clear hw2
      have sz4 := K3.size
      replace hat := K3.at_ hat (fun h => h)
      have KK5 := hK.trans (K3.mono fun _ h => h.elim)
      refine RD.takesKU (by kernel_rfl) [0, 1, 2, 3, 4, 5, 6, 7, 8, 9, 10, 11, 12, 13, 14, 15, 16, 17, 18, 19, 20] 3 rfl (by kernel_rfl) rfl hcl hS ?_
      refine RQ.opd 16 rfl rfl rfl (Yld.plain (v := .slice (some ⟨g, 0, none⟩) n cap) rfl (fun _ _ => (X_move rfl))) ?_
      refine RQ.opd 17 rfl rfl rfl (Yld.plain (v := .int .i64 (a : Nat)) rfl (fun _ _ => (X_move rfl))) ?_
      refine RQ.opd 18 rfl rfl rfl (Yld.plain (v := .int .i64 (i : Nat)) rfl (fun _ _ => (X_move rfl))) ?_
      refine RQ.opd 19 rfl rfl rfl (Yld.plain (v := .int .i64 ((a + i : Nat) : Int)) rfl (fun _ _ => (X_add rfl rfl (by omega) (show (a : Int) + (i : Int) = ((a + i : Nat) : Int) by omega)))) ?_
      refine RQ.opd 20 rfl rfl rfl (Yld.plain (v := .slice (some ⟨g, 0, none⟩) n cap) rfl (fun _ _ => (X_move rfl))) ?_
      refine RQ.opd 21 rfl rfl rfl (Yld.plain (v := .int .i64 (b : Nat)) rfl (fun _ _ => (X_move rfl))) ?_
      refine RQ.opd 22 rfl rfl rfl (Yld.plain (v := .int .i64 (i : Nat)) rfl (fun _ _ => (X_move rfl))) ?_
      refine RQ.opd 23 rfl rfl rfl (Yld.plain (v := .int .i64 ((b + i : Nat) : Int)) rfl (fun _ _ => (X_add rfl rfl (by omega) (show (b : Int) + (i : Int) = ((b + i : Nat) : Int) by omega)))) ?_
      refine RQ.opd 24 rfl rfl rfl (Yld.plain (v := .slice (some ⟨g, 0, none⟩) n cap) rfl (fun _ _ => (X_move rfl))) ?_
      refine RQ.opd 25 rfl rfl rfl (Yld.plain (v := .int .i64 (b : Nat)) rfl (fun _ _ => (X_move rfl))) ?_
      refine RQ.opd 26 rfl rfl rfl (Yld.plain (v := .int .i64 (i : Nat)) rfl (fun _ _ => (X_move rfl))) ?_
      refine RQ.opd 27 rfl rfl rfl (Yld.plain (v := .int .i64 ((b + i : Nat) : Int)) rfl (fun _ _ => (X_add rfl rfl (by omega) (show (b : Int) + (i : Int) = ((b + i : Nat) : Int) by omega)))) ?_
      refine RQ.opd 28 rfl rfl rfl (Yld.plain (v := .pointer (some ⟨g, 0 + (b + i) * 1, none⟩)) rfl (fun _ _ => (X_indexAddr Try.underlying27 Try.inf3 rfl rfl (by omega)))) ?_
      refine RQ.opd 29 rfl rfl rfl (Yld.KU (v := .int .i64 (ys.getD (b + i) 0)) 24 rfl (by kernel_rfl) (fun _ hk => (X_load Try.underlying3 rfl rfl (hk.cell (at_get hat (by omega)) (fun h => h))))) ?_
      refine RQ.opd 30 rfl rfl rfl (Yld.plain (v := .slice (some ⟨g, 0, none⟩) n cap) rfl (fun _ _ => (X_move rfl))) ?_
      refine RQ.opd 31 rfl rfl rfl (Yld.plain (v := .int .i64 (a : Nat)) rfl (fun _ _ => (X_move rfl))) ?_
      refine RQ.opd 32 rfl rfl rfl (Yld.plain (v := .int .i64 (i : Nat)) rfl (fun _ _ => (X_move rfl))) ?_
      refine RQ.opd 33 rfl rfl rfl (Yld.plain (v := .int .i64 ((a + i : Nat) : Int)) rfl (fun _ _ => (X_add rfl rfl (by omega) (show (a : Int) + (i : Int) = ((a + i : Nat) : Int) by omega)))) ?_
      refine RQ.opd 34 rfl rfl rfl (Yld.plain (v := .pointer (some ⟨g, 0 + (a + i) * 1, none⟩)) rfl (fun _ _ => (X_indexAddr Try.underlying27 Try.inf3 rfl rfl (by omega)))) ?_
      refine RQ.opd 35 rfl rfl rfl (Yld.KU (v := .int .i64 (ys.getD (a + i) 0)) 24 rfl (by kernel_rfl) (fun _ hk => (X_load Try.underlying3 rfl rfl (hk.cell (at_get hat (by omega)) (fun h => h))))) ?_
      refine RQ.opd 36 rfl rfl rfl (Yld.plain (v := .pointer (some ⟨g, 0 + (a + i) * 1, none⟩)) rfl (fun _ _ => (X_indexAddr Try.underlying27 Try.inf3 rfl rfl (by omega)))) ?_
      refine RQ.nil ?_
      clear hcl hS
      intro hcl hS
      refine RD.one (i := 21) rfl (by kernel_rfl) hcl hS ?_
      refine RD.storeAt (v := .int .i64 (ys.getD (b + i) 0)) (by kernel_rfl) hcl rfl rfl rfl rfl Try.inf3 rfl rfl rfl rfl hat (by simp only [List.size_toArray, List.length_append, ints_len]; omega) (fun _ _ _ => (SKU.now hcl rfl)) ?_
      clear hcl hS
      intro w6 hB8 K7 hcl hS
      replace hB8 := at_set hB8 (by omega)
      have KK9 := KK5.trans K7
      refine RD.takesKU (by kernel_rfl) [22] 1 rfl (by kernel_rfl) rfl hcl hS ?_
      refine RQ.opd 37 rfl rfl rfl (Yld.plain (v := .pointer (some ⟨g, 0 + (b + i) * 1, none⟩)) rfl (fun _ _ => (X_indexAddr Try.underlying27 Try.inf3 rfl rfl (by omega)))) ?_
      refine RQ.nil ?_
      clear hcl hS
      intro hcl hS
      refine RD.one (i := 23) rfl (by kernel_rfl) hcl hS ?_
      refine RD.storeAt (v := .int .i64 (ys.getD (a + i) 0)) (by kernel_rfl) hcl rfl rfl rfl rfl Try.inf3 rfl rfl rfl rfl hB8 (by simp only [List.size_toArray, List.length_append, ints_len, List.length_set]; omega) (fun _ _ _ => (SKU.past rfl (by kernel_rfl))) ?_
      clear hcl hS
      intro w10 hB12 K11 hcl hS
      replace hB12 := at_set hB12 (by simp only [List.length_set]; omega)
      have KK13 := KK9.trans K11
      refine RD.done (by kernel_rfl) hcl hS ?_
      refine RW.region ?_
      refine RL.opd (v := .int .i64 (i : Nat)) 14 rfl rfl rfl (X_move rfl) ?_
      refine RL.opd (v := .int .i64 (((i : Nat) : Int) + 1)) 15 rfl rfl rfl (X_add rfl rfl (by omega) rfl) ?_
      refine RL.opd (v := .int .i64 (((i : Nat) : Int) + 1)) 10 rfl rfl rfl (X_assign rfl) ?_
      refine RL.nil ?_
      refine ⟨gk1 - 1, by omega, ⟨rfl, rfl, rfl, rfl⟩, ?_⟩
      exact ⟨i + 1, rfl, by omega, by omega, by rw [← swr_step (n := k) (a := a) (b := b) hu hv hlt ha hb, hys]; exact hB12, KK13⟩
    · -- slot 13: False
      refine RW.exit ?_
      obtain rfl : i = k := by have := of_decide_eq_false hlt; omega
      rw [swr_all hu hv] at hat
      exact ret0 (.inr rfl) rfl ⟨rfl, hat, hK⟩

set_option maxRecDepth 10000 in
theorem insertion_any (g n cap a b : Nat) (pt : Value) (f : Int → Int) (S : Int → Prop) (p m q : List Int) (rest : List Value) (w : World) (hn : n ≤ 1000000) (hl : (p ++ m ++ q).length = n) (ha : p.length = a) (hb : a + m.length = b) (hm : m.Pairwise (· < ·)) (hS : ∀ x ∈ m, S x) (hC : CmpOk Try.prog 39 pt g f S w) (hat : At w g (.cells (ints (p ++ m ++ q) ++ rest).toArray 3)) :
    Calls Try.prog 96 #[.slice (some ⟨g, 0, none⟩) n cap, .int .i64 (a : Nat), .int .i64 (b : Nat), .func (.func 39) #[] #[pt]] w fun e w' => ∃ m', e = .returned (.tuple #[]) ∧ SortOf f m m' ∧ At w' g (.cells (ints (p ++ m' ++ q) ++ rest).toArray 3) ∧ Keeps (· = g) w w' := by
  refine calls_of_RW Try.func96 rfl (Nat.le_of_ble_eq_true rfl) ?_
  refine RW.seq ?_
  have hl' : p.length + m.length + q.length = n := by simp only [List.length_append] at hl; omega
  refine RW.region ?_
  refine RL.opd (v := .int .i64 (a : Nat)) 10 rfl rfl rfl (X_move rfl) ?_
  refine RL.opd (v := .int .i64 ((a + 1 : Nat) : Int)) 11 rfl rfl rfl (X_add rfl rfl (by omega) (show (a : Int) + 1 = ((a + 1 : Nat) : Int) by omega)) ?_
  refine RL.opd (v := .int .i64 ((a + 1 : Nat) : Int)) 8 rfl rfl rfl (X_assign rfl) ?_
  refine RL.nil ?_
  refine RW.block ?_
  refine RW.loop (fun gk φ wr => (φ 0 = .slice (some ⟨g, 0, none⟩) n cap ∧ φ 1 = .int .i64 (a : Nat) ∧ φ 2 = .int .i64 (b : Nat) ∧ φ 3 = .func (.func 39) #[] #[pt]) ∧ ∃ (s : List Int) (i : Nat), φ 8 = .int .i64 (i : Nat) ∧ gk = b - i ∧ a + 1 ≤ i ∧ (i ≤ b ∨ m = []) ∧ SortOf f (m.take (i - a)) s ∧ At wr g (.cells (ints (p ++ s ++ m.drop (i - a) ++ q) ++ rest).toArray 3) ∧ Keeps (· = g) w wr) (b - (a + 1)) ?_ ?_
  · exact ⟨⟨rfl, rfl, rfl, rfl⟩, m.take 1, a + 1, rfl, rfl, Nat.le_refl _, (by rcases Nat.eq_zero_or_pos m.length with h | h; exact .inr (List.eq_nil_of_length_eq_zero h); exact .inl (by omega)), (by rw [Nat.add_sub_cancel_left]; exact one_sorts f m), (by rw [Nat.add_sub_cancel_left, List.append_assoc p, List.take_append_drop]; exact hat), Keeps.refl _ _⟩
  · rintro gk1 φ wr1 ⟨⟨h_0, h_1, h_2, h_3⟩, s, i, h_8, hgk, hi, hib, hso, hat, hK⟩
    obtain ⟨φ0, rfl⟩ : ∃ φ0, φ = upd (upd (upd (upd (upd φ0 0 (.slice (some ⟨g, 0, none⟩) n cap)) 1 (.int .i64 (a : Nat))) 2 (.int .i64 (b : Nat))) 3 (.func (.func 39) #[] #[pt])) 8 (.int .i64 (i : Nat)) := ⟨φ, by rw [upd_of h_0, upd_of h_1, upd_of h_2, upd_of h_3, upd_of h_8]⟩
    clear h_0 h_1 h_2 h_3 h_8
    have hsz := hK.size
    refine RW.seq ?_
    refine RW.seq ?_
    refine RW.region ?_
    refine RL.opd (v := .int .i64 (i : Nat)) 12 rfl rfl rfl (X_move rfl) ?_
    refine RL.opd (v := .int .i64 (b : Nat)) 13 rfl rfl rfl (X_move rfl) ?_
    refine RL.opd (v := .bool (decide (((i : Nat) : Int) < (b : Nat)))) 14 rfl rfl rfl (X_lss rfl rfl) ?_
    refine RL.nil ?_
    refine RW.cond rfl (fun hlt => ?_) (fun hlt => ?_)
    · -- slot 14: True
      refine RW.skip ?_
      refine RW.seq ?_
      refine RW.block ?_
      refine RW.seq ?_
      refine RW.region ?_
      refine RL.opd (v := .int .i64 (i : Nat)) 17 rfl rfl rfl (X_move rfl) ?_
      refine RL.opd (v := .int .i64 (i : Nat)) 9 rfl rfl rfl (X_assign rfl) ?_
      refine RL.nil ?_
      refine RW.block ?_
      have hlt := of_decide_eq_true hlt
      have hlt : i < b := by omega
      have hia : i - a < m.length := by omega
      have hsl : s.length = i - a := by have := hso.len; rw [this]; simp; omega
      have hxm : ∃ x, m[i - a] = x := ⟨_, rfl⟩
      obtain ⟨x, hx⟩ := hxm
      have hSx : S x := hS _ (hx ▸ List.getElem_mem hia)
      have hxlt : ∀ y ∈ m.take (i - a), y < x := fun y hy => by
        obtain ⟨t, ht, rfl⟩ := List.getElem_of_mem hy
        simp only [List.length_take] at ht
        rw [List.getElem_take, ← hx]
        exact List.pairwise_iff_getElem.1 hm t (i - a) (by omega) hia (by omega)
      have hdr : m.drop (i - a) = x :: m.drop (i - a + 1) := by rw [List.drop_eq_getElem_cons hia, hx]
      refine RW.loop (fun gk φ wr => (φ 0 = .slice (some ⟨g, 0, none⟩) n cap ∧ φ 1 = .int .i64 (a : Nat) ∧ φ 2 = .int .i64 (b : Nat) ∧ φ 3 = .func (.func 39) #[] #[pt] ∧ φ 8 = .int .i64 (i : Nat)) ∧ ∃ (s1 s2 : List Int) (j : Nat), φ 9 = .int .i64 (j : Nat) ∧ s = s1 ++ s2 ∧ j = a + s1.length ∧ gk = s1.length ∧ (∀ y ∈ s2, f x < f y) ∧ At wr g (.cells (ints (p ++ s1 ++ x :: s2 ++ m.drop (i - a + 1) ++ q) ++ rest).toArray 3) ∧ Keeps (· = g) w wr) s.length ?_ ?_
      · exact ⟨⟨rfl, rfl, rfl, rfl, rfl⟩, s, [], i, rfl, (List.append_nil s).symm, by omega, rfl, (by simp), (by rw [hdr] at hat; simpa using hat), hK⟩
      · rintro gk2 φ wr2 ⟨⟨h_0, h_1, h_2, h_3, h_8⟩, s1, s2, j, h_9, hs12, hj, hgk, h2, hat, hK⟩
        obtain ⟨φ0, rfl⟩ : ∃ φ0, φ = upd (upd (upd (upd (upd (upd φ0 0 (.slice (some ⟨g, 0, none⟩) n cap)) 1 (.int .i64 (a : Nat))) 2 (.int .i64 (b : Nat))) 3 (.func (.func 39) #[] #[pt])) 8 (.int .i64 (i : Nat))) 9 (.int .i64 (j : Nat)) := ⟨φ, by rw [upd_of h_0, upd_of h_1, upd_of h_2, upd_of h_3, upd_of h_8, upd_of h_9]⟩
        clear h_0 h_1 h_2 h_3 h_8 h_9
        have hsz := hK.size
        refine RW.seq ?_
        refine RW.seq ?_
        have hln : (p ++ s1 ++ x :: s2 ++ m.drop (i - a + 1) ++ q).length = n := by
          have h5 := congrArg List.length hs12
          simp only [List.length_append] at h5
          simp only [List.length_append, List.length_cons, List.length_drop] at hl ⊢; omega
        have hjn : j < n := by have h5 := congrArg List.length hs12; simp only [List.length_append] at h5; omega
        have hjx : (p ++ s1 ++ x :: s2 ++ m.drop (i - a + 1) ++ q).getD j 0 = x := by
          have e : p ++ s1 ++ x :: s2 ++ m.drop (i - a + 1) ++ q = (p ++ s1) ++ x :: (s2 ++ m.drop (i - a + 1) ++ q) := by simp
          rw [e]; exact getD_app (by simp; omega)
        have hy : Unit → a < j → ∃ s1' y, s1 = s1' ++ [y] ∧ (p ++ s1 ++ x :: s2 ++ m.drop (i - a + 1) ++ q).getD (j - 1) 0 = y ∧ S y := fun _ h => by
          obtain ⟨s1', y, rfl⟩ := last_of (s := s1) (by intro h0; rw [h0] at hj; simp at hj; omega)
          refine ⟨s1', y, rfl, ?_, hS y (List.mem_of_mem_take (hso.2.subset (by rw [hs12]; simp)))⟩
          have e : p ++ (s1' ++ [y]) ++ x :: s2 ++ m.drop (i - a + 1) ++ q = (p ++ s1') ++ y :: (x :: (s2 ++ m.drop (i - a + 1) ++ q)) := by simp
          rw [e]; exact getD_app (by simp at hj ⊢; omega)
        generalize hys : p ++ s1 ++ x :: s2 ++ m.drop (i - a + 1) ++ q = ys at hat hln hjx hy
        refine RW.drawK Try.mixed (fun w1 hw2 hcl hS => ?_)
        have K3 : Keeps none_ wr2 w1 := by rw [hw2]; exact Keeps.drew _ _
        clear hw2
        have sz4 := K3.size
        replace hat := K3.at_ hat (fun h => h)
        have KK5 := hK.trans (K3.mono fun _ h => h.elim)
        refine RD.takesK (by kernel_rfl) [0, 1, 2, 3, 4, 5, 6, 7, 8, 9, 10, 11, 12, 13] 3 rfl (by kernel_rfl) hcl hS ?_
        refine RQ.opd 18 rfl rfl rfl (Yld.plain (v := .int .i64 (j : Nat)) rfl (fun _ _ => (X_move rfl))) ?_
        refine RQ.opd 19 rfl rfl rfl (Yld.plain (v := .int .i64 (a : Nat)) rfl (fun _ _ => (X_move rfl))) ?_
        refine RQ.opd 20 rfl rfl rfl (Yld.plain (v := .bool (decide (((a : Nat) : Int) < (j : Nat)))) rfl (fun _ _ => (X_gtr rfl rfl))) ?_
        refine RQ.opd 21 rfl rfl rfl (Yld.plain (v := .bool (decide (((a : Nat) : Int) < (j : Nat)))) rfl (fun _ _ => (X_move rfl))) ?_
        refine RQ.opd 22 rfl rfl rfl (Yld.guard (v := .func (.func 39) #[] #[pt]) rfl rfl rfl rfl (fun hg _ _ => (X_move rfl))) ?_
        refine RQ.opd 23 rfl rfl rfl (Yld.guard (v := .slice (some ⟨g, 0, none⟩) n cap) rfl rfl rfl rfl (fun hg _ _ => (X_move rfl))) ?_
        refine RQ.opd 24 rfl rfl rfl (Yld.guard (v := .int .i64 (j : Nat)) rfl rfl rfl rfl (fun hg _ _ => (X_move rfl))) ?_
        refine RQ.opd 25 rfl rfl rfl (Yld.guard (v := .pointer (some ⟨g, 0 + (j) * 1, none⟩)) rfl rfl rfl rfl (fun hg _ _ => (X_indexAddr Try.underlying27 Try.inf3 (gb_on hg) (gb_on hg) (by omega)))) ?_
        refine RQ.opd 26 rfl rfl rfl (Yld.gK (v := .int .i64 (ys.getD (j) 0)) rfl rfl rfl rfl (fun hg _ hk => (X_load Try.underlying3 rfl (gb_on hg) (hk.cell (at_get hat (by omega)) (fun h => h))))) ?_
        refine RQ.opd 27 rfl rfl rfl (Yld.guard (v := .slice (some ⟨g, 0, none⟩) n cap) rfl rfl rfl rfl (fun hg _ _ => (X_move rfl))) ?_
        refine RQ.opd 28 rfl rfl rfl (Yld.guard (v := .int .i64 (j : Nat)) rfl rfl rfl rfl (fun hg _ _ => (X_move rfl))) ?_
        refine RQ.opd 29 rfl rfl rfl (Yld.guard (v := .int .i64 ((j - 1 : Nat) : Int)) rfl rfl rfl rfl (fun hg _ _ => (X_sub (gb_on hg) rfl (by omega) (show (j : Int) - 1 = ((j - 1 : Nat) : Int) by have : a < j := (by simpa using hg); omega)))) ?_
        refine RQ.opd 30 rfl rfl rfl (Yld.guard (v := .pointer (some ⟨g, 0 + (j - 1) * 1, none⟩)) rfl rfl rfl rfl (fun hg _ _ => (X_indexAddr Try.underlying27 Try.inf3 (gb_on hg) (gb_on hg) (by omega)))) ?_
        refine RQ.opd 31 rfl rfl rfl (Yld.gK (v := .int .i64 (ys.getD (j - 1) 0)) rfl rfl rfl rfl (fun hg _ hk => (X_load Try.underlying3 rfl (gb_on hg) (hk.cell (at_get hat (by omega)) (fun h => h))))) ?_
        refine RQ.nil ?_
        clear hcl hS
        intro hcl hS
        refine RD.one (i := 14) rfl (by kernel_rfl) hcl hS ?_
        refine RS.gpure (val := .int .i64 (f (ys.getD j 0) - f (ys.getD (j - 1) 0))) (by kernel_rfl) hcl rfl rfl rfl rfl rfl ⟨rfl, rfl⟩ (fun hg => X_cmp (gb_on hg) Try.en39 (gb_on hg) (gb_on hg)) (fun hg => (hC _ (KK5) (ys.getD j 0) (ys.getD (j - 1) 0) (by rw [hjx]; exact hSx) (by obtain ⟨_, _, _, h6, h7⟩ := hy () (by simpa using hg); rw [h6]; exact h7))) (SK.same hS) ?_
        clear hcl hS
        intro hcl hS
        refine RD.takesK (by kernel_rfl) [15, 16] 0 rfl (by kernel_rfl) hcl hS ?_
        refine RQ.opd 33 rfl rfl rfl (Yld.guard (v := .bool (decide (((f (ys.getD j 0) - f (ys.getD (j - 1) 0)) : Int) < 0))) rfl rfl rfl rfl (fun hg _ _ => (X_lss (gb_on hg) rfl))) ?_
        refine RQ.opd 34 rfl rfl rfl (Yld.plain (v := .bool (bif (decide (((a : Nat) : Int) < (j : Nat))) then (decide (((f (ys.getD j 0) - f (ys.getD (j - 1) 0)) : Int) < 0)) else false)) rfl (fun _ _ => (X_pickB rfl (fun h => gbT h) (fun _ => rfl)))) ?_
        refine RQ.nil ?_
        clear hcl hS
        intro hcl hS
        refine RD.done (by kernel_rfl) hcl hS ?_
        refine RW.cond rfl (fun hcj => ?_) (fun hcj => ?_)
        · -- slot 34: True
          refine RW.skip ?_
          refine RW.seq ?_
          refine RW.block ?_
          have hj0 : a < j := by
            cases h : decide ((a : Int) < (j : Nat)) with
            | true => have := of_decide_eq_true h; omega
            | false => rw [h] at hcj; simp at hcj
          refine RW.drawKU 15 Try.mixed (fun w6 hw7 hcl hS => ?_)
          have K8 : Keeps none_ w1 w6 := by rw [hw7]; exact Keeps.drew _ _
          clear hw7
          have sz9 := K8.size
          replace hat := K8.at_ hat (fun h => h)
          have KK10 := KK5.trans (K8.mono fun _ h => h.elim)
          refine RD.takesKU (by kernel_rfl) [0, 1, 2, 3, 4, 5, 6, 7, 8, 9, 10, 11, 12, 13, 14] 3 rfl (by kernel_rfl) rfl hcl hS ?_
          refine RQ.opd 37 rfl rfl rfl (Yld.plain (v := .slice (some ⟨g, 0, none⟩) n cap) rfl (fun _ _ => (X_move rfl))) ?_
          refine RQ.opd 38 rfl rfl rfl (Yld.plain (v := .int .i64 (j : Nat)) rfl (fun _ _ => (X_move rfl))) ?_
          refine RQ.opd 39 rfl rfl rfl (Yld.plain (v := .slice (some ⟨g, 0, none⟩) n cap) rfl (fun _ _ => (X_move rfl))) ?_
          refine RQ.opd 40 rfl rfl rfl (Yld.plain (v := .int .i64 (j : Nat)) rfl (fun _ _ => (X_move rfl))) ?_
          refine RQ.opd 41 rfl rfl rfl (Yld.plain (v := .int .i64 ((j - 1 : Nat) : Int)) rfl (fun _ _ => (X_sub rfl rfl (by omega) (show (j : Int) - 1 = ((j - 1 : Nat) : Int) by omega)))) ?_
          refine RQ.opd 42 rfl rfl rfl (Yld.plain (v := .slice (some ⟨g, 0, none⟩) n cap) rfl (fun _ _ => (X_move rfl))) ?_
          refine RQ.opd 43 rfl rfl rfl (Yld.plain (v := .int .i64 (j : Nat)) rfl (fun _ _ => (X_move rfl))) ?_
          refine RQ.opd 44 rfl rfl rfl (Yld.plain (v := .int .i64 ((j - 1 : Nat) : Int)) rfl (fun _ _ => (X_sub rfl rfl (by omega) (show (j : Int) - 1 = ((j - 1 : Nat) : Int) by omega)))) ?_
          refine RQ.opd 45 rfl rfl rfl (Yld.plain (v := .pointer (some ⟨g, 0 + (j - 1) * 1, none⟩)) rfl (fun _ _ => (X_indexAddr Try.underlying27 Try.inf3 rfl rfl (by omega)))) ?_
          refine RQ.opd 46 rfl rfl rfl (Yld.KU (v := .int .i64 (ys.getD (j - 1) 0)) 18 rfl (by kernel_rfl) (fun _ hk => (X_load Try.underlying3 rfl rfl (hk.cell (at_get hat (by omega)) (fun h => h))))) ?_
          refine RQ.opd 47 rfl rfl rfl (Yld.plain (v := .slice (some ⟨g, 0, none⟩) n cap) rfl (fun _ _ => (X_move rfl))) ?_
          refine RQ.opd 48 rfl rfl rfl (Yld.plain (v := .int .i64 (j : Nat)) rfl (fun _ _ => (X_move rfl))) ?_
          refine RQ.opd 49 rfl rfl rfl (Yld.plain (v := .pointer (some ⟨g, 0 + (j) * 1, none⟩)) rfl (fun _ _ => (X_indexAddr Try.underlying27 Try.inf3 rfl rfl (by omega)))) ?_
          refine RQ.opd 50 rfl rfl rfl (Yld.KU (v := .int .i64 (ys.getD (j) 0)) 18 rfl (by kernel_rfl) (fun _ hk => (X_load Try.underlying3 rfl rfl (hk.cell (at_get hat (by omega)) (fun h => h))))) ?_
          refine RQ.opd 51 rfl rfl rfl (Yld.plain (v := .pointer (some ⟨g, 0 + (j) * 1, none⟩)) rfl (fun _ _ => (X_indexAddr Try.underlying27 Try.inf3 rfl rfl (by omega)))) ?_
          refine RQ.nil ?_
          clear hcl hS
          intro hcl hS
          refine RD.one (i := 15) rfl (by kernel_rfl) hcl hS ?_
          refine RD.storeAt (v := .int .i64 (ys.getD (j - 1) 0)) (by kernel_rfl) hcl rfl rfl rfl rfl Try.inf3 rfl rfl rfl rfl hat (by simp only [List.size_toArray, List.length_append, ints_len]; omega) (fun _ _ _ => (SKU.now hcl rfl)) ?_
          clear hcl hS
          intro w11 hB13 K12 hcl hS
          replace hB13 := at_set hB13 (by omega)
          have KK14 := KK10.trans K12
          refine RD.takesKU (by kernel_rfl) [16] 1 rfl (by kernel_rfl) rfl hcl hS ?_
          refine RQ.opd 52 rfl rfl rfl (Yld.plain (v := .pointer (some ⟨g, 0 + (j - 1) * 1, none⟩)) rfl (fun _ _ => (X_indexAddr Try.underlying27 Try.inf3 rfl rfl (by omega)))) ?_
          refine RQ.nil ?_
          clear hcl hS
          intro hcl hS
          refine RD.one (i := 17) rfl (by kernel_rfl) hcl hS ?_
          refine RD.storeAt (v := .int .i64 (ys.getD (j) 0)) (by kernel_rfl) hcl rfl rfl rfl rfl Try.inf3 rfl rfl rfl rfl hB13 (by simp only [List.size_toArray, List.length_append, ints_len, List.length_set]; omega) (fun _ _ _ => (SKU.past rfl (by kernel_rfl))) ?_
          clear hcl hS
          intro w15 hB17 K16 hcl hS
          replace hB17 := at_set hB17 (by simp only [List.length_set]; omega)
          have KK18 := KK14.trans K16
          refine RD.done (by kernel_rfl) hcl hS ?_
          refine RW.region ?_
          refine RL.opd (v := .int .i64 (j : Nat)) 35 rfl rfl rfl (X_move rfl) ?_
          refine RL.opd (v := .int .i64 ((j - 1 : Nat) : Int)) 36 rfl rfl rfl (X_sub rfl rfl (by omega) (show (j : Int) - 1 = ((j - 1 : Nat) : Int) by omega)) ?_
          refine RL.opd (v := .int .i64 ((j - 1 : Nat) : Int)) 9 rfl rfl rfl (X_assign rfl) ?_
          refine RL.nil ?_
          refine ⟨gk2 - 1, by omega, ⟨rfl, rfl, rfl, rfl, rfl⟩, ?_⟩
          obtain ⟨s1', y, rfl, hyj, _⟩ := hy () hj0
          have hfy : f x < f y := by
            have h1 : decide ((a : Int) < (j : Nat)) = true := decide_eq_true (by omega)
            rw [h1] at hcj
            have := of_decide_eq_true hcj
            rw [hjx, hyj] at this; omega
          have hl1 : (s1' ++ [y]).length = s1'.length + 1 := by simp
          rw [hl1] at hj hgk
          refine ⟨s1', y :: s2, j - 1, rfl, by rw [hs12]; simp, by omega, by omega, ?_, ?_, KK18⟩
          · intro z hz
            rcases List.mem_cons.1 hz with rfl | hz
            · exact hfy
            · exact h2 z hz
          · have e3 : ys = (p ++ s1') ++ y :: ([] ++ x :: (s2 ++ m.drop (i - a + 1) ++ q)) := by rw [← hys]; simp
            have e4 := swp_down (P := p ++ s1') (M := []) (Q := s2 ++ m.drop (i - a + 1) ++ q) (x := y) (y := x) (i := j - 1) (j := j) (by simp; omega) (by simp; omega)
            rw [← e3] at e4
            have e5 : p ++ s1' ++ x :: (y :: s2) ++ m.drop (i - a + 1) ++ q = swp ys j (j - 1) := by rw [e4]; simp
            rw [e5]; exact hB17
        · -- slot 34: False
          refine RW.exit ?_
          refine RW.region ?_
          refine RL.opd (v := .int .i64 (i : Nat)) 15 rfl rfl rfl (X_move rfl) ?_
          refine RL.opd (v := .int .i64 ((i + 1 : Nat) : Int)) 16 rfl rfl rfl (X_add rfl rfl (by omega) (show (i : Int) + 1 = ((i + 1 : Nat) : Int) by omega)) ?_
          refine RL.opd (v := .int .i64 ((i + 1 : Nat) : Int)) 8 rfl rfl rfl (X_assign rfl) ?_
          refine RL.nil ?_
          refine ⟨gk1 - 1, by omega, ⟨rfl, rfl, rfl, rfl⟩, ?_⟩
          have hcj2 := and_f hcj
          have e1 : m.take (i + 1 - a) = m.take (i - a) ++ [x] := by rw [show i + 1 - a = (i - a) + 1 by omega, List.take_succ_eq_append_getElem hia, hx]
          refine ⟨s1 ++ x :: s2, i + 1, rfl, by omega, by omega, by omega, ?_, ?_, KK5⟩
          · rw [e1]
            refine ins_right hso hs12 hxlt h2 fun z hz => ?_
            rcases hcj2 with h0 | h0
            · have h0 := of_decide_eq_false h0
              have : s1 = [] := List.eq_nil_of_length_eq_zero (by omega)
              rw [this] at hz; cases hz
            · have h0 := of_decide_eq_false h0
              rcases Nat.lt_or_ge a j with hj0 | hj0
              · obtain ⟨s1', y, rfl, hyj, _⟩ := hy () hj0
                rw [List.getLast?_concat] at hz
                cases hz
                rw [hjx, hyj] at h0; omega
              · have : s1 = [] := List.eq_nil_of_length_eq_zero (by omega)
                rw [this] at hz; cases hz
          · rw [show i + 1 - a = (i - a) + 1 by omega]
            have e2 : p ++ (s1 ++ x :: s2) ++ m.drop (i - a + 1) ++ q = ys := by rw [← hys]; simp
            rw [e2]; exact hat
    · -- slot 14: False
      refine RW.exit ?_
      have hlt := of_decide_eq_false hlt
      have hml : m.length ≤ i - a := by rcases hib with h | h; omega; rw [h]; simp
      rw [List.take_of_length_le hml] at hso
      rw [List.drop_of_length_le hml, List.append_nil] at hat
      exact ret0 (.inr rfl) rfl ⟨s, rfl, hso, hat, hK⟩

set_option maxRecDepth 10000 in
theorem rotate_any (g n cap a m b : Nat) (cv : Value) (p u v q : List Int) (rest : List Value) (w : World) (hn : n ≤ 1000000) (hl : (p ++ u ++ v ++ q).length = n) (ha : p.length = a) (hm : a + u.length = m) (hb : m + v.length = b) (hu0 : a < m) (hv0 : m < b) (hat : At w g (.cells (ints (p ++ u ++ v ++ q) ++ rest).toArray 3)) :
    Calls Try.prog 117 #[.slice (some ⟨g, 0, none⟩) n cap, .int .i64 (a : Nat), .int .i64 (m : Nat), .int .i64 (b : Nat), cv] w fun e w' => e = .returned (.tuple #[]) ∧ At w' g (.cells (ints (p ++ v ++ u ++ q) ++ rest).toArray 3) ∧ Keeps (· = g) w w' := by
  refine calls_of_RW Try.func117 rfl (Nat.le_of_ble_eq_true rfl) ?_
  refine RW.seq ?_
  have hl' : p.length + u.length + v.length + q.length = n := by simp only [List.length_append] at hl; omega
  refine RW.region ?_
  refine RL.opd (v := .int .i64 (m : Nat)) 12 rfl rfl rfl (X_move rfl) ?_
  refine RL.opd (v := .int .i64 (a : Nat)) 13 rfl rfl rfl (X_move rfl) ?_
  refine RL.opd (v := .int .i64 ((m - a : Nat) : Int)) 14 rfl rfl rfl (X_sub rfl rfl (by omega) (show (m : Int) - (a : Int) = ((m - a : Nat) : Int) by omega)) ?_
  refine RL.opd (v := .int .i64 ((m - a : Nat) : Int)) 10 rfl rfl rfl (X_assign rfl) ?_
  refine RL.nil ?_
  refine RW.seq ?_
  refine RW.region ?_
  refine RL.opd (v := .int .i64 (b : Nat)) 15 rfl rfl rfl (X_move rfl) ?_
  refine RL.opd (v := .int .i64 (m : Nat)) 16 rfl rfl rfl (X_move rfl) ?_
  refine RL.opd (v := .int .i64 ((b - m : Nat) : Int)) 17 rfl rfl rfl (X_sub rfl rfl (by omega) (show (b : Int) - (m : Int) = ((b - m : Nat) : Int) by omega)) ?_
  refine RL.opd (v := .int .i64 ((b - m : Nat) : Int)) 11 rfl rfl rfl (X_assign rfl) ?_
  refine RL.nil ?_
  refine RW.seq ?_
  refine RW.block ?_
  refine RW.loop (fun gk φ wr => (φ 0 = .slice (some ⟨g, 0, none⟩) n cap ∧ φ 1 = .int .i64 (a : Nat) ∧ φ 2 = .int .i64 (m : Nat) ∧ φ 3 = .int .i64 (b : Nat) ∧ φ 4 = cv) ∧ ∃ (P U V Q : List Int) (i j : Nat), φ 10 = .int .i64 (i : Nat) ∧ φ 11 = .int .i64 (j : Nat) ∧ U.length = i ∧ V.length = j ∧ P.length + i = m ∧ P ++ V ++ U ++ Q = p ++ v ++ u ++ q ∧ 0 < i ∧ 0 < j ∧ gk = i + j ∧ At wr g (.cells (ints (P ++ U ++ V ++ Q) ++ rest).toArray 3) ∧ Keeps (· = g) w wr) (u.length + v.length) ?_ ?_
  · exact ⟨⟨rfl, rfl, rfl, rfl, rfl⟩, p, u, v, q, m - a, b - m, rfl, rfl, by omega, by omega, by omega, rfl, by omega, by omega, by omega, hat, Keeps.refl _ _⟩
  · rintro gk1 φ wr1 ⟨⟨h_0, h_1, h_2, h_3, h_4⟩, P, U, V, Q, i, j, h_10, h_11, hU, hV, hP, hPQ, hi, hj, hgk, hat, hK⟩
    obtain ⟨φ0, rfl⟩ : ∃ φ0, φ = upd (upd (upd (upd (upd (upd (upd φ0 0 (.slice (some ⟨g, 0, none⟩) n cap)) 1 (.int .i64 (a : Nat))) 2 (.int .i64 (m : Nat))) 3 (.int .i64 (b : Nat))) 4 (cv)) 10 (.int .i64 (i : Nat))) 11 (.int .i64 (j : Nat)) := ⟨φ, by rw [upd_of h_0, upd_of h_1, upd_of h_2, upd_of h_3, upd_of h_4, upd_of h_10, upd_of h_11]⟩
    clear h_0 h_1 h_2 h_3 h_4 h_10 h_11
    have hsz := hK.size
    refine RW.seq ?_
    refine RW.seq ?_
    have hPl : P.length + U.length + V.length + Q.length = n := by
      have h5 := congrArg List.length hPQ
      simp only [List.length_append] at h5; omega
    refine RW.region ?_
    refine RL.opd (v := .int .i64 (i : Nat)) 18 rfl rfl rfl (X_move rfl) ?_
    refine RL.opd (v := .int .i64 (j : Nat)) 19 rfl rfl rfl (X_move rfl) ?_
    refine RL.opd (v := .bool (!decide (((i : Nat) : Int) = (j : Nat)))) 20 rfl rfl rfl (X_neq rfl rfl) ?_
    refine RL.nil ?_
    refine RW.cond rfl (fun hnn => ?_) (fun hnn => ?_)
    · -- slot 20: True
      refine RW.skip ?_
      refine RW.block ?_
      refine RW.seq ?_
      refine RW.region ?_
      refine RL.opd (v := .int .i64 (i : Nat)) 21 rfl rfl rfl (X_move rfl) ?_
      refine RL.opd (v := .int .i64 (j : Nat)) 22 rfl rfl rfl (X_move rfl) ?_
      refine RL.opd (v := .bool (decide (((j : Nat) : Int) < (i : Nat)))) 23 rfl rfl rfl (X_gtr rfl rfl) ?_
      refine RL.nil ?_
      refine RW.cond rfl (fun hc => ?_) (fun hc => ?_)
      · -- slot 23: True
        refine RW.seq ?_
        refine RW.region ?_
        refine RL.opd (v := .slice (some ⟨g, 0, none⟩) n cap) 24 rfl rfl rfl (X_move rfl) ?_
        refine RL.opd (v := .int .i64 (m : Nat)) 25 rfl rfl rfl (X_move rfl) ?_
        refine RL.opd (v := .int .i64 (i : Nat)) 26 rfl rfl rfl (X_move rfl) ?_
        refine RL.opd (v := .int .i64 ((m - i : Nat) : Int)) 27 rfl rfl rfl (X_sub rfl rfl (by omega) (show (m : Int) - (i : Int) = ((m - i : Nat) : Int) by omega)) ?_
        refine RL.opd (v := .int .i64 (m : Nat)) 28 rfl rfl rfl (X_move rfl) ?_
        refine RL.opd (v := .int .i64 (j : Nat)) 29 rfl rfl rfl (X_move rfl) ?_
        refine RL.opd (v := cv) 30 rfl rfl rfl (X_move rfl) ?_
        have hln : (P ++ U ++ V ++ Q).length = n := by
          have h5 := congrArg List.length hPQ
          simp only [List.length_append] at h5 hl ⊢; omega
        have e4 : P ++ U ++ V ++ Q = P ++ U.take j ++ U.drop j ++ V ++ Q := by rw [List.append_assoc P (U.take j), List.take_append_drop]
        rw [e4] at hat hln
        have hij := of_decide_eq_true hc
        refine RL.call rfl (X_callF Try.en150 rfl) ⟨rfl, rfl⟩ (swap_any g n cap (m - i) m j cv P (U.take j) (U.drop j) V Q rest wr1 hn hln (by simp; omega) hV (by omega) (by simp; omega) hat) ?_
        rintro e2 w1 ⟨rfl, hat2, hK2⟩
        refine ⟨_, rfl, ?_⟩
        have sz3 := hK2.size
        have KK4 := hK.trans hK2
        refine RL.nil ?_
        refine RW.region ?_
        refine RL.opd (v := .int .i64 (i : Nat)) 32 rfl rfl rfl (X_move rfl) ?_
        refine RL.opd (v := .int .i64 (j : Nat)) 33 rfl rfl rfl (X_move rfl) ?_
        refine RL.opd (v := .int .i64 ((i - j : Nat) : Int)) 34 rfl rfl rfl (X_sub rfl rfl (by omega) (show (i : Int) - (j : Int) = ((i - j : Nat) : Int) by omega)) ?_
        refine RL.opd (v := .int .i64 ((i - j : Nat) : Int)) 10 rfl rfl rfl (X_assign rfl) ?_
        refine RL.nil ?_
        refine ⟨i, by omega, ⟨rfl, rfl, rfl, rfl, rfl⟩, ?_⟩
        refine ⟨P ++ V, U.drop j, U.take j, Q, i - j, j, rfl, rfl, by simp; omega, by simp; omega, by simp; omega, ?_, by omega, hj, by omega, ?_, KK4⟩
        · rw [← hPQ]; have := List.take_append_drop j U; conv => rhs; rw [← this]
          simp
        · have e : P ++ V ++ U.drop j ++ U.take j ++ Q = P ++ V ++ U.drop j ++ U.take j ++ Q := rfl
          exact hat2
      · -- slot 23: False
        refine RW.seq ?_
        refine RW.region ?_
        refine RL.opd (v := .slice (some ⟨g, 0, none⟩) n cap) 35 rfl rfl rfl (X_move rfl) ?_
        refine RL.opd (v := .int .i64 (m : Nat)) 36 rfl rfl rfl (X_move rfl) ?_
        refine RL.opd (v := .int .i64 (i : Nat)) 37 rfl rfl rfl (X_move rfl) ?_
        refine RL.opd (v := .int .i64 ((m - i : Nat) : Int)) 38 rfl rfl rfl (X_sub rfl rfl (by omega) (show (m : Int) - (i : Int) = ((m - i : Nat) : Int) by omega)) ?_
        refine RL.opd (v := .int .i64 (m : Nat)) 39 rfl rfl rfl (X_move rfl) ?_
        refine RL.opd (v := .int .i64 (j : Nat)) 40 rfl rfl rfl (X_move rfl) ?_
        refine RL.opd (v := .int .i64 ((m + j : Nat) : Int)) 41 rfl rfl rfl (X_add rfl rfl (by omega) (show (m : Int) + (j : Int) = ((m + j : Nat) : Int) by omega)) ?_
        refine RL.opd (v := .int .i64 (i : Nat)) 42 rfl rfl rfl (X_move rfl) ?_
        refine RL.opd (v := .int .i64 ((m + j - i : Nat) : Int)) 43 rfl rfl rfl (X_sub rfl rfl (by omega) (show ((m + j : Nat) : Int) - (i : Int) = ((m + j - i : Nat) : Int) by omega)) ?_
        refine RL.opd (v := .int .i64 (i : Nat)) 44 rfl rfl rfl (X_move rfl) ?_
        refine RL.opd (v := cv) 45 rfl rfl rfl (X_move rfl) ?_
        have hln : (P ++ U ++ V ++ Q).length = n := by
          have h5 := congrArg List.length hPQ
          simp only [List.length_append] at h5 hl ⊢; omega
        have e4 : P ++ U ++ V ++ Q = P ++ U ++ V.take (j - i) ++ V.drop (j - i) ++ Q := by rw [List.append_assoc (P ++ U) (V.take (j - i)), List.take_append_drop]
        rw [e4] at hat hln
        have hij := of_decide_eq_false hc
        have hne : i ≠ j := by intro h; rw [h] at hnn; simp at hnn
        refine RL.call rfl (X_callF Try.en150 rfl) ⟨rfl, rfl⟩ (swap_any g n cap (m - i) (m + j - i) i cv P U (V.take (j - i)) (V.drop (j - i)) Q rest wr1 hn hln hU (by simp; omega) (by omega) (by simp; omega) hat) ?_
        rintro e6 w5 ⟨rfl, hat2, hK2⟩
        refine ⟨_, rfl, ?_⟩
        have sz7 := hK2.size
        have KK8 := hK.trans hK2
        refine RL.nil ?_
        refine RW.region ?_
        refine RL.opd (v := .int .i64 (j : Nat)) 47 rfl rfl rfl (X_move rfl) ?_
        refine RL.opd (v := .int .i64 (i : Nat)) 48 rfl rfl rfl (X_move rfl) ?_
        refine RL.opd (v := .int .i64 ((j - i : Nat) : Int)) 49 rfl rfl rfl (X_sub rfl rfl (by omega) (show (j : Int) - (i : Int) = ((j - i : Nat) : Int) by omega)) ?_
        refine RL.opd (v := .int .i64 ((j - i : Nat) : Int)) 11 rfl rfl rfl (X_assign rfl) ?_
        refine RL.nil ?_
        refine ⟨j, by omega, ⟨rfl, rfl, rfl, rfl, rfl⟩, ?_⟩
        refine ⟨P, V.drop (j - i), V.take (j - i), U ++ Q, i, j - i, rfl, rfl, by simp; omega, by simp; omega, hP, ?_, hi, by omega, by omega, ?_, KK8⟩
        · rw [← hPQ]; have := List.take_append_drop (j - i) V; conv => rhs; rw [← this]
          simp
        · have e : P ++ V.drop (j - i) ++ V.take (j - i) ++ (U ++ Q) = P ++ V.drop (j - i) ++ V.take (j - i) ++ U ++ Q := by simp
          rw [e]; exact hat2
    · -- slot 20: False
      refine RW.exit ?_
      refine RW.region ?_
      refine RL.opd (v := .slice (some ⟨g, 0, none⟩) n cap) 50 rfl rfl rfl (X_move rfl) ?_
      refine RL.opd (v := .int .i64 (m : Nat)) 51 rfl rfl rfl (X_move rfl) ?_
      refine RL.opd (v := .int .i64 (i : Nat)) 52 rfl rfl rfl (X_move rfl) ?_
      refine RL.opd (v := .int .i64 ((m - i : Nat) : Int)) 53 rfl rfl rfl (X_sub rfl rfl (by omega) (show (m : Int) - (i : Int) = ((m - i : Nat) : Int) by omega)) ?_
      refine RL.opd (v := .int .i64 (m : Nat)) 54 rfl rfl rfl (X_move rfl) ?_
      refine RL.opd (v := .int .i64 (i : Nat)) 55 rfl rfl rfl (X_move rfl) ?_
      refine RL.opd (v := cv) 56 rfl rfl rfl (X_move rfl) ?_
      have hij : i = j := by simp at hnn; omega
      subst hij
      have hln : (P ++ U ++ V ++ Q).length = n := by
        have h5 := congrArg List.length hPQ
        simp only [List.length_append] at h5 hl ⊢; omega
      have e4 : P ++ U ++ V ++ Q = P ++ U ++ [] ++ V ++ Q := by simp
      rw [e4] at hat hln
      refine RL.call rfl (X_callF Try.en150 rfl) ⟨rfl, rfl⟩ (swap_any g n cap (m - i) m i cv P U [] V Q rest wr1 hn hln hU hV (by omega) (by simp; omega) hat) ?_
      rintro e10 w9 ⟨rfl, hat2, hK2⟩
      refine ⟨_, rfl, ?_⟩
      have sz11 := hK2.size
      have KK12 := hK.trans hK2
      refine RL.nil ?_
      have e5 : P ++ V ++ [] ++ U ++ Q = p ++ v ++ u ++ q := by rw [← hPQ]; simp
      rw [e5] at hat2
      exact ret0 (.inr rfl) rfl ⟨rfl, hat2, KK12⟩

end Go.Proofs
