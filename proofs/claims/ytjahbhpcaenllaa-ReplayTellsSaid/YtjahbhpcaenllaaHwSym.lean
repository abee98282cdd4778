/- The library's merge in place. -/
import Derived.Test.YtjahbhpcaenllaaHwSort
namespace Hw.Sym
end Hw.Sym
namespace Go.Proofs
open Go.RowKit Go.Hw Hw.Sym
def SymAt (N : Nat) : Prop := ∀ (g n cap a m b : Nat) (pt : Value) (f : Int → Int) (S : Int → Prop) (p u v q : List Int) (rest : List Value) (w : World), u.length + v.length = N → n ≤ 1000000 → (p ++ u ++ v ++ q).length = n → p.length = a → a + u.length = m → m + v.length = b → a < m → m < b →
    Two f u v → (∀ x ∈ u ++ v, S x) → CmpOk Try.prog 39 pt g f S w → At w g (.cells (ints (p ++ u ++ v ++ q) ++ rest).toArray 3) →
    Calls Try.prog 97 #[.slice (some ⟨g, 0, none⟩) n cap, .int .i64 (a : Nat), .int .i64 (m : Nat), .int .i64 (b : Nat), .func (.func 39) #[] #[pt]] w fun e w' => ∃ t, e = .returned (.tuple #[]) ∧ SortOf f (u ++ v) t ∧ At w' g (.cells (ints (p ++ t ++ q) ++ rest).toArray 3) ∧ Keeps (· = g) w w'

set_option maxRecDepth 10000 in
set_option maxHeartbeats 1000000 in
theorem sym_step (N : Nat) (ih : ∀ N', N' < N → SymAt N') : SymAt N := by
  intro g n cap a m b pt f S p u v q rest w hN hn hl ha hm hb ham hmb T hS hC hat
  have hl' : p.length + u.length + v.length + q.length = n := by simp only [List.length_append] at hl; omega
  obtain ⟨xs, hxs⟩ : ∃ xs, p ++ u ++ v ++ q = xs := ⟨_, rfl⟩
  have hlx : xs.length = n := hxs ▸ hl
  have hgu : ∀ t, a ≤ t → t < m → xs.getD t 0 = u.getD (t - a) 0 := fun t h1 h2 => by rw [← hxs]; exact getD_u ha h1 (by omega)
  have hgv : ∀ t, m ≤ t → t < b → xs.getD t 0 = v.getD (t - m) 0 := fun t h1 h2 => by rw [← hxs]; exact getD_v (by omega) h1 (by omega)
  have hSg : ∀ t, a ≤ t → t < b → S (xs.getD t 0) := fun t h1 h2 => by
    rcases Nat.lt_or_ge t m with h | h
    · rw [hgu t h1 h]; exact hS _ (List.mem_append_left _ (getD_mem (by omega)))
    · rw [hgv t h h2]; exact hS _ (List.mem_append_right _ (getD_mem (by omega)))
  have hmu : ∀ t t', a ≤ t → t ≤ t' → t' < m → f (xs.getD t 0) ≤ f (xs.getD t' 0) := fun t t' h1 h2 h3 => by
    rw [hgu t h1 (by omega), hgu t' (by omega) h3]; exact key_mono T.l (by omega) (by omega)
  have hmv : ∀ t t', m ≤ t → t ≤ t' → t' < b → f (xs.getD t 0) ≤ f (xs.getD t' 0) := fun t t' h1 h2 h3 => by
    rw [hgv t h1 (by omega), hgv t' (by omega) h3]; exact key_mono T.r (by omega) (by omega)
  rw [hxs] at hat
  refine calls_of_RW Try.func97 rfl (Nat.le_of_ble_eq_true rfl) ?_
  refine RW.seq ?_
  refine RW.seq ?_
  refine RW.region ?_
  refine RL.opd (v := .int .i64 (m : Nat)) 25 rfl rfl rfl (X_move rfl) ?_
  refine RL.opd (v := .int .i64 (a : Nat)) 26 rfl rfl rfl (X_move rfl) ?_
  refine RL.opd (v := .int .i64 ((m - a : Nat) : Int)) 27 rfl rfl rfl (X_sub rfl rfl (by omega) (show (m : Int) - (a : Int) = ((m - a : Nat) : Int) by omega)) ?_
  refine RL.opd (v := .bool (decide ((((m - a : Nat) : Int) : Int) = 1))) 28 rfl rfl rfl (X_eql rfl rfl) ?_
  refine RL.nil ?_
  refine RW.cond rfl (fun h1u => ?_) (fun h1u => ?_)
  · -- slot 28: True
    refine RW.seq ?_
    refine RW.region ?_
    refine RL.opd (v := .int .i64 (m : Nat)) 29 rfl rfl rfl (X_move rfl) ?_
    refine RL.opd (v := .int .i64 (m : Nat)) 10 rfl rfl rfl (X_assign rfl) ?_
    refine RL.nil ?_
    refine RW.seq ?_
    refine RW.region ?_
    refine RL.opd (v := .int .i64 (b : Nat)) 30 rfl rfl rfl (X_move rfl) ?_
    refine RL.opd (v := .int .i64 (b : Nat)) 11 rfl rfl rfl (X_assign rfl) ?_
    refine RL.nil ?_
    refine RW.seq ?_
    refine RW.block ?_
    refine RW.loop (fun gk φ wr => (φ 0 = .slice (some ⟨g, 0, none⟩) n cap ∧ φ 1 = .int .i64 (a : Nat) ∧ φ 2 = .int .i64 (m : Nat) ∧ φ 3 = .int .i64 (b : Nat) ∧ φ 4 = .func (.func 39) #[] #[pt]) ∧ ∃ (i j : Nat), φ 10 = .int .i64 (i : Nat) ∧ φ 11 = .int .i64 (j : Nat) ∧ m ≤ i ∧ i ≤ j ∧ j ≤ b ∧ gk = j - i ∧ (∀ t, m ≤ t → t < i → f (xs.getD t 0) < f (xs.getD a 0)) ∧ (∀ t, j ≤ t → t < b → ¬ f (xs.getD t 0) < f (xs.getD a 0)) ∧ At wr g (.cells (ints xs ++ rest).toArray 3) ∧ Keeps (· = g) w wr) (b - m) ?_ ?_
    · exact ⟨⟨rfl, rfl, rfl, rfl, rfl⟩, m, b, rfl, rfl, Nat.le_refl _, by omega, Nat.le_refl _, rfl, (fun t h1 h2 => absurd h2 (by omega)), (fun t h1 h2 => absurd h2 (by omega)), hat, Keeps.refl _ _⟩
    · rintro gk1 φ wr1 ⟨⟨h_0, h_1, h_2, h_3, h_4⟩, i, j, h_10, h_11, hi1, hi2, hi3, hgk, hlo, hhi, hat, hK⟩
      obtain ⟨φ0, rfl⟩ : ∃ φ0, φ = upd (upd (upd (upd (upd (upd (upd φ0 0 (.slice (some ⟨g, 0, none⟩) n cap)) 1 (.int .i64 (a : Nat))) 2 (.int .i64 (m : Nat))) 3 (.int .i64 (b : Nat))) 4 (.func (.func 39) #[] #[pt])) 10 (.int .i64 (i : Nat))) 11 (.int .i64 (j : Nat)) := ⟨φ, by rw [upd_of h_0, upd_of h_1, upd_of h_2, upd_of h_3, upd_of h_4, upd_of h_10, upd_of h_11]⟩
      clear h_0 h_1 h_2 h_3 h_4 h_10 h_11
      have hsz := hK.size
      refine RW.seq ?_
      refine RW.seq ?_
      refine RW.region ?_
      refine RL.opd (v := .int .i64 (i : Nat)) 31 rfl rfl rfl (X_move rfl) ?_
      refine RL.opd (v := .int .i64 (j : Nat)) 32 rfl rfl rfl (X_move rfl) ?_
      refine RL.opd (v := .bool (decide (((i : Nat) : Int) < (j : Nat)))) 33 rfl rfl rfl (X_lss rfl rfl) ?_
      refine RL.nil ?_
      refine RW.cond rfl (fun hlt => ?_) (fun hlt => ?_)
      · -- slot 33: True
        refine RW.skip ?_
        refine RW.block ?_
        refine RW.seq ?_
        have hlt := of_decide_eq_true hlt
        have hM : i ≤ ((i + j) / 2) ∧ ((i + j) / 2) < j := by omega
        refine RW.region ?_
        refine RL.opd (v := .int .i64 (i : Nat)) 34 rfl rfl rfl (X_move rfl) ?_
        refine RL.opd (v := .int .i64 (j : Nat)) 35 rfl rfl rfl (X_move rfl) ?_
        refine RL.opd (v := .int .i64 (((i : Nat) : Int) + (j : Nat))) 36 rfl rfl rfl (X_add rfl rfl (by omega) rfl) ?_
        refine RL.opd 37 rfl rfl rfl (X_convU Try.underlying3 Try.underlying185 rfl (by omega)) ?_
        refine RL.opd 38 rfl rfl rfl (X_shr1 rfl rfl) ?_
        refine RL.opd (v := .int .i64 (((i + j) / 2) : Nat)) 39 rfl rfl rfl (X_convI Try.underlying185 Try.underlying3 rfl (by omega) (show ((i : Int) + (j : Int)) / 2 = ((((i + j) / 2) : Nat) : Int) by omega)) ?_
        refine RL.opd (v := .int .i64 (((i + j) / 2) : Nat)) 12 rfl rfl rfl (X_assign rfl) ?_
        refine RL.nil ?_
        refine RW.seq ?_
        refine RW.drawK Try.mixed (fun w1 hw2 hcl hS => ?_)
        have K3 : Keeps none_ wr1 w1 := by rw [hw2]; exact Keeps.drew _ _
        clear hw2
        have sz4 := K3.size
        replace hat := K3.at_ hat (fun h => h)
        have KK5 := hK.trans (K3.mono fun _ h => h.elim)
        refine RD.takesK (by kernel_rfl) [0, 1, 2, 3, 4, 5, 6, 7, 8] 2 rfl (by kernel_rfl) hcl hS ?_
        refine RQ.opd 40 rfl rfl rfl (Yld.plain (v := .func (.func 39) #[] #[pt]) rfl (fun _ _ => (X_move rfl))) ?_
        refine RQ.opd 41 rfl rfl rfl (Yld.plain (v := .slice (some ⟨g, 0, none⟩) n cap) rfl (fun _ _ => (X_move rfl))) ?_
        refine RQ.opd 42 rfl rfl rfl (Yld.plain (v := .int .i64 (((i + j) / 2) : Nat)) rfl (fun _ _ => (X_move rfl))) ?_
        refine RQ.opd 43 rfl rfl rfl (Yld.plain (v := .pointer (some ⟨g, 0 + (((i + j) / 2)) * 1, none⟩)) rfl (fun _ _ => (X_indexAddr Try.underlying27 Try.inf3 rfl rfl (by omega)))) ?_
        refine RQ.opd 44 rfl rfl rfl (Yld.K (v := .int .i64 (xs.getD (((i + j) / 2)) 0)) rfl (fun _ hk => (X_load Try.underlying3 rfl rfl (hk.cell (at_get hat (by omega)) (fun h => h))))) ?_
        refine RQ.opd 45 rfl rfl rfl (Yld.plain (v := .slice (some ⟨g, 0, none⟩) n cap) rfl (fun _ _ => (X_move rfl))) ?_
        refine RQ.opd 46 rfl rfl rfl (Yld.plain (v := .int .i64 (a : Nat)) rfl (fun _ _ => (X_move rfl))) ?_
        refine RQ.opd 47 rfl rfl rfl (Yld.plain (v := .pointer (some ⟨g, 0 + (a) * 1, none⟩)) rfl (fun _ _ => (X_indexAddr Try.underlying27 Try.inf3 rfl rfl (by omega)))) ?_
        refine RQ.opd 48 rfl rfl rfl (Yld.K (v := .int .i64 (xs.getD (a) 0)) rfl (fun _ hk => (X_load Try.underlying3 rfl rfl (hk.cell (at_get hat (by omega)) (fun h => h))))) ?_
        refine RQ.nil ?_
        clear hcl hS
        intro hcl hS
        refine RD.one (i := 9) rfl (by kernel_rfl) hcl hS ?_
        refine RD.calls (by kernel_rfl) hcl rfl rfl (X_cmp rfl Try.en39 rfl rfl) ⟨rfl, rfl⟩ ((hC _ (KK5) (xs.getD ((i + j) / 2) 0) (xs.getD (a) 0) (hSg _ (by omega) (by omega)) (hSg _ (by omega) (by omega)))) ?_
        rintro e w2 ⟨rfl, rfl⟩
        refine ⟨_, rfl, SK.same hS, ?_⟩
        clear hcl hS
        intro hcl hS
        refine RD.takesK (by kernel_rfl) [10] 0 rfl (by kernel_rfl) hcl hS ?_
        refine RQ.opd 50 rfl rfl rfl (Yld.plain (v := .bool (decide (((f (xs.getD ((i + j) / 2) 0) - f (xs.getD (a) 0)) : Int) < 0))) rfl (fun _ _ => (X_lss rfl rfl))) ?_
        refine RQ.nil ?_
        clear hcl hS
        intro hcl hS
        refine RD.done (by kernel_rfl) hcl hS ?_
        refine RW.cond rfl (fun hc => ?_) (fun hc => ?_)
        · -- slot 50: True
          refine RW.region ?_
          refine RL.opd (v := .int .i64 (((i + j) / 2) : Nat)) 51 rfl rfl rfl (X_move rfl) ?_
          refine RL.opd (v := .int .i64 ((((i + j) / 2) + 1 : Nat) : Int)) 52 rfl rfl rfl (X_add rfl rfl (by omega) (show ((((i + j) / 2) : Nat) : Int) + 1 = ((((i + j) / 2) + 1 : Nat) : Int) by omega)) ?_
          refine RL.opd (v := .int .i64 ((((i + j) / 2) + 1 : Nat) : Int)) 10 rfl rfl rfl (X_assign rfl) ?_
          refine RL.nil ?_
          refine ⟨j - (((i + j) / 2) + 1), by omega, ⟨rfl, rfl, rfl, rfl, rfl⟩, ?_⟩
          have hc := of_decide_eq_true hc
          refine ⟨((i + j) / 2) + 1, j, rfl, rfl, by omega, by omega, hi3, rfl, fun t h1 h2 => ?_, hhi, hat, KK5⟩
          have := hmv t ((i + j) / 2) h1 (by omega) (by omega); omega
        · -- slot 50: False
          refine RW.region ?_
          refine RL.opd (v := .int .i64 (((i + j) / 2) : Nat)) 53 rfl rfl rfl (X_move rfl) ?_
          refine RL.opd (v := .int .i64 (((i + j) / 2) : Nat)) 11 rfl rfl rfl (X_assign rfl) ?_
          refine RL.nil ?_
          refine ⟨((i + j) / 2) - i, by omega, ⟨rfl, rfl, rfl, rfl, rfl⟩, ?_⟩
          have hc := of_decide_eq_false hc
          refine ⟨i, ((i + j) / 2), rfl, rfl, hi1, by omega, by omega, rfl, hlo, fun t h1 h2 => ?_, hat, KK5⟩
          have := hmv ((i + j) / 2) t (by omega) h1 h2; omega
      · -- slot 33: False
        refine RW.exit ?_
        refine RW.seq ?_
        refine RW.seq ?_
        refine RW.region ?_
        refine RL.opd (v := .int .i64 (a : Nat)) 54 rfl rfl rfl (X_move rfl) ?_
        refine RL.opd (v := .int .i64 (a : Nat)) 13 rfl rfl rfl (X_assign rfl) ?_
        refine RL.nil ?_
        refine RW.block ?_
        have hij : j = i := by have := of_decide_eq_false hlt; omega
        subst hij
        obtain ⟨x, hux⟩ : ∃ x, u = [x] := List.length_eq_one_iff.1 (by simp at h1u; omega)
        have hul : u.length = 1 := by rw [hux]; rfl
        have hxa : xs.getD a 0 = x := by rw [hgu a (Nat.le_refl _) (by omega), hux]; simp
        refine RW.loop (fun gk φ wr => (φ 0 = .slice (some ⟨g, 0, none⟩) n cap ∧ φ 1 = .int .i64 (a : Nat) ∧ φ 2 = .int .i64 (m : Nat) ∧ φ 3 = .int .i64 (b : Nat) ∧ φ 4 = .func (.func 39) #[] #[pt] ∧ φ 10 = .int .i64 (j : Nat)) ∧ ∃ (k : Nat), φ 13 = .int .i64 (k : Nat) ∧ a ≤ k ∧ k + 1 ≤ j ∧ gk = j - 1 - k ∧ At wr g (.cells (ints (p ++ v.take (k - a) ++ x :: v.drop (k - a) ++ q) ++ rest).toArray 3) ∧ Keeps (· = g) w wr) (j - 1 - a) ?_ ?_
        · exact ⟨⟨rfl, rfl, rfl, rfl, rfl, rfl⟩, a, rfl, Nat.le_refl _, by omega, rfl, (by rw [← hxs, hux] at hat; simpa using hat), hK⟩
        · rintro gk2 φ wr2 ⟨⟨h_0, h_1, h_2, h_3, h_4, h_10⟩, k, h_13, hk1, hk2, hgk, hat, hK⟩
          obtain ⟨φ0, rfl⟩ : ∃ φ0, φ = upd (upd (upd (upd (upd (upd (upd φ0 0 (.slice (some ⟨g, 0, none⟩) n cap)) 1 (.int .i64 (a : Nat))) 2 (.int .i64 (m : Nat))) 3 (.int .i64 (b : Nat))) 4 (.func (.func 39) #[] #[pt])) 10 (.int .i64 (j : Nat))) 13 (.int .i64 (k : Nat)) := ⟨φ, by rw [upd_of h_0, upd_of h_1, upd_of h_2, upd_of h_3, upd_of h_4, upd_of h_10, upd_of h_13]⟩
          clear h_0 h_1 h_2 h_3 h_4 h_10 h_13
          have hsz := hK.size
          refine RW.seq ?_
          refine RW.seq ?_
          refine RW.region ?_
          refine RL.opd (v := .int .i64 (k : Nat)) 55 rfl rfl rfl (X_move rfl) ?_
          refine RL.opd (v := .int .i64 (j : Nat)) 56 rfl rfl rfl (X_move rfl) ?_
          refine RL.opd (v := .int .i64 ((j - 1 : Nat) : Int)) 57 rfl rfl rfl (X_sub rfl rfl (by omega) (show (j : Int) - 1 = ((j - 1 : Nat) : Int) by omega)) ?_
          refine RL.opd (v := .bool (decide (((k : Nat) : Int) < ((j - 1 : Nat) : Int)))) 58 rfl rfl rfl (X_lss rfl rfl) ?_
          refine RL.nil ?_
          refine RW.cond rfl (fun hlt2 => ?_) (fun hlt2 => ?_)
          · -- slot 58: True
            refine RW.skip ?_
            refine RW.seq ?_
            refine RW.block ?_
            have hlt2 := of_decide_eq_true hlt2
            have hlny : (p ++ v.take (k - a) ++ x :: v.drop (k - a) ++ q).length = n := by
              rw [hux] at hl'; simp only [List.length_append, List.length_cons, List.length_take, List.length_drop, List.length_nil] at hl' ⊢; omega
            generalize hys : p ++ v.take (k - a) ++ x :: v.drop (k - a) ++ q = ys at hat hlny
            refine RW.drawKU 15 Try.mixed (fun w6 hw7 hcl hS => ?_)
            have K8 : Keeps none_ wr2 w6 := by rw [hw7]; exact Keeps.drew _ _
            clear hw7
            have sz9 := K8.size
            replace hat := K8.at_ hat (fun h => h)
            have KK10 := hK.trans (K8.mono fun _ h => h.elim)
            refine RD.takesKU (by kernel_rfl) [0, 1, 2, 3, 4, 5, 6, 7, 8, 9, 10, 11, 12, 13, 14] 3 rfl (by kernel_rfl) rfl hcl hS ?_
            refine RQ.opd 61 rfl rfl rfl (Yld.plain (v := .slice (some ⟨g, 0, none⟩) n cap) rfl (fun _ _ => (X_move rfl))) ?_
            refine RQ.opd 62 rfl rfl rfl (Yld.plain (v := .int .i64 (k : Nat)) rfl (fun _ _ => (X_move rfl))) ?_
            refine RQ.opd 63 rfl rfl rfl (Yld.plain (v := .slice (some ⟨g, 0, none⟩) n cap) rfl (fun _ _ => (X_move rfl))) ?_
            refine RQ.opd 64 rfl rfl rfl (Yld.plain (v := .int .i64 (k : Nat)) rfl (fun _ _ => (X_move rfl))) ?_
            refine RQ.opd 65 rfl rfl rfl (Yld.plain (v := .int .i64 ((k + 1 : Nat) : Int)) rfl (fun _ _ => (X_add rfl rfl (by omega) (show (k : Int) + 1 = ((k + 1 : Nat) : Int) by omega)))) ?_
            refine RQ.opd 66 rfl rfl rfl (Yld.plain (v := .slice (some ⟨g, 0, none⟩) n cap) rfl (fun _ _ => (X_move rfl))) ?_
            refine RQ.opd 67 rfl rfl rfl (Yld.plain (v := .int .i64 (k : Nat)) rfl (fun _ _ => (X_move rfl))) ?_
            refine RQ.opd 68 rfl rfl rfl (Yld.plain (v := .int .i64 ((k + 1 : Nat) : Int)) rfl (fun _ _ => (X_add rfl rfl (by omega) (show (k : Int) + 1 = ((k + 1 : Nat) : Int) by omega)))) ?_
            refine RQ.opd 69 rfl rfl rfl (Yld.plain (v := .pointer (some ⟨g, 0 + (k + 1) * 1, none⟩)) rfl (fun _ _ => (X_indexAddr Try.underlying27 Try.inf3 rfl rfl (by omega)))) ?_
            refine RQ.opd 70 rfl rfl rfl (Yld.KU (v := .int .i64 (ys.getD (k + 1) 0)) 18 rfl (by kernel_rfl) (fun _ hk => (X_load Try.underlying3 rfl rfl (hk.cell (at_get hat (by omega)) (fun h => h))))) ?_
            refine RQ.opd 71 rfl rfl rfl (Yld.plain (v := .slice (some ⟨g, 0, none⟩) n cap) rfl (fun _ _ => (X_move rfl))) ?_
            refine RQ.opd 72 rfl rfl rfl (Yld.plain (v := .int .i64 (k : Nat)) rfl (fun _ _ => (X_move rfl))) ?_
            refine RQ.opd 73 rfl rfl rfl (Yld.plain (v := .pointer (some ⟨g, 0 + (k) * 1, none⟩)) rfl (fun _ _ => (X_indexAddr Try.underlying27 Try.inf3 rfl rfl (by omega)))) ?_
            refine RQ.opd 74 rfl rfl rfl (Yld.KU (v := .int .i64 (ys.getD (k) 0)) 18 rfl (by kernel_rfl) (fun _ hk => (X_load Try.underlying3 rfl rfl (hk.cell (at_get hat (by omega)) (fun h => h))))) ?_
            refine RQ.opd 75 rfl rfl rfl (Yld.plain (v := .pointer (some ⟨g, 0 + (k) * 1, none⟩)) rfl (fun _ _ => (X_indexAddr Try.underlying27 Try.inf3 rfl rfl (by omega)))) ?_
            refine RQ.nil ?_
            clear hcl hS
            intro hcl hS
            refine RD.one (i := 15) rfl (by kernel_rfl) hcl hS ?_
            refine RD.storeAt (v := .int .i64 (ys.getD (k + 1) 0)) (by kernel_rfl) hcl rfl rfl rfl rfl Try.inf3 rfl rfl rfl rfl hat (by simp only [List.size_toArray, List.length_append, ints_len]; omega) (fun _ _ _ => (SKU.now hcl rfl)) ?_
            clear hcl hS
            intro w11 hB13 K12 hcl hS
            replace hB13 := at_set hB13 (by omega)
            have KK14 := KK10.trans K12
            refine RD.takesKU (by kernel_rfl) [16] 1 rfl (by kernel_rfl) rfl hcl hS ?_
            refine RQ.opd 76 rfl rfl rfl (Yld.plain (v := .pointer (some ⟨g, 0 + (k + 1) * 1, none⟩)) rfl (fun _ _ => (X_indexAddr Try.underlying27 Try.inf3 rfl rfl (by omega)))) ?_
            refine RQ.nil ?_
            clear hcl hS
            intro hcl hS
            refine RD.one (i := 17) rfl (by kernel_rfl) hcl hS ?_
            refine RD.storeAt (v := .int .i64 (ys.getD (k) 0)) (by kernel_rfl) hcl rfl rfl rfl rfl Try.inf3 rfl rfl rfl rfl hB13 (by simp only [List.size_toArray, List.length_append, ints_len, List.length_set]; omega) (fun _ _ _ => (SKU.past rfl (by kernel_rfl))) ?_
            clear hcl hS
            intro w15 hB17 K16 hcl hS
            replace hB17 := at_set hB17 (by simp only [List.length_set]; omega)
            have KK18 := KK14.trans K16
            refine RD.done (by kernel_rfl) hcl hS ?_
            refine RW.region ?_
            refine RL.opd (v := .int .i64 (k : Nat)) 59 rfl rfl rfl (X_move rfl) ?_
            refine RL.opd (v := .int .i64 ((k + 1 : Nat) : Int)) 60 rfl rfl rfl (X_add rfl rfl (by omega) (show (k : Int) + 1 = ((k + 1 : Nat) : Int) by omega)) ?_
            refine RL.opd (v := .int .i64 ((k + 1 : Nat) : Int)) 13 rfl rfl rfl (X_assign rfl) ?_
            refine RL.nil ?_
            refine ⟨gk2 - 1, by omega, ⟨rfl, rfl, rfl, rfl, rfl, rfl⟩, ?_⟩
            refine ⟨k + 1, rfl, by omega, by omega, by omega, ?_, KK18⟩
            have hkv : k - a < v.length := by omega
            have e1 : v.drop (k - a) = v[k - a] :: v.drop (k - a + 1) := List.drop_eq_getElem_cons hkv
            have e2 : v.take (k + 1 - a) = v.take (k - a) ++ [v[k - a]] := by rw [show k + 1 - a = (k - a) + 1 by omega]; exact List.take_succ_eq_append_getElem hkv
            have e3 : ys = (p ++ v.take (k - a)) ++ x :: ([] ++ v[k - a] :: (v.drop (k - a + 1) ++ q)) := by rw [← hys, e1]; simp only [List.append_assoc, List.cons_append, List.nil_append]
            have e4 := swp_up (P := p ++ v.take (k - a)) (M := []) (Q := v.drop (k - a + 1) ++ q) (x := x) (y := v[k - a]) (i := k) (j := k + 1) (by simp; omega) (by simp)
            rw [← e3] at e4
            have e5 : p ++ v.take (k + 1 - a) ++ x :: v.drop (k + 1 - a) ++ q = swp ys k (k + 1) := by rw [e4, e2, show k + 1 - a = k - a + 1 by omega]; simp only [List.append_assoc, List.cons_append, List.nil_append]
            rw [e5]; exact hB17
          · -- slot 58: False
            refine RW.exit ?_
            refine RW.ret ?_
            have hk : k = j - 1 := by have := of_decide_eq_false hlt2; omega
            have hT : Two f [x] v := hux ▸ T
            have hs := one_left (i := k - a) hT (by omega) (fun t ht => by have := hlo (m + t) (by omega) (by omega); rw [hxa, hgv _ (by omega) (by omega), Nat.add_sub_cancel_left] at this; exact this)
              (fun t ht hl => by have := hhi (m + t) (by omega) (by omega); rw [hxa, hgv _ (by omega) (by omega), Nat.add_sub_cancel_left] at this; exact this)
            refine ret0 (.inl rfl) rfl ⟨_, rfl, hux ▸ hs, ?_, hK⟩
            have e : p ++ (v.take (k - a) ++ x :: v.drop (k - a)) ++ q = p ++ v.take (k - a) ++ x :: v.drop (k - a) ++ q := by simp only [List.append_assoc]
            rw [e]; exact hat
  · -- slot 28: False
    refine RW.skip ?_
    refine RW.seq ?_
    refine RW.seq ?_
    refine RW.region ?_
    refine RL.opd (v := .int .i64 (b : Nat)) 77 rfl rfl rfl (X_move rfl) ?_
    refine RL.opd (v := .int .i64 (m : Nat)) 78 rfl rfl rfl (X_move rfl) ?_
    refine RL.opd (v := .int .i64 ((b - m : Nat) : Int)) 79 rfl rfl rfl (X_sub rfl rfl (by omega) (show (b : Int) - (m : Int) = ((b - m : Nat) : Int) by omega)) ?_
    refine RL.opd (v := .bool (decide ((((b - m : Nat) : Int) : Int) = 1))) 80 rfl rfl rfl (X_eql rfl rfl) ?_
    refine RL.nil ?_
    refine RW.cond rfl (fun h1v => ?_) (fun h1v => ?_)
    · -- slot 80: True
      refine RW.seq ?_
      refine RW.region ?_
      refine RL.opd (v := .int .i64 (a : Nat)) 81 rfl rfl rfl (X_move rfl) ?_
      refine RL.opd (v := .int .i64 (a : Nat)) 14 rfl rfl rfl (X_assign rfl) ?_
      refine RL.nil ?_
      refine RW.seq ?_
      refine RW.region ?_
      refine RL.opd (v := .int .i64 (m : Nat)) 82 rfl rfl rfl (X_move rfl) ?_
      refine RL.opd (v := .int .i64 (m : Nat)) 15 rfl rfl rfl (X_assign rfl) ?_
      refine RL.nil ?_
      refine RW.seq ?_
      refine RW.block ?_
      refine RW.loop (fun gk φ wr => (φ 0 = .slice (some ⟨g, 0, none⟩) n cap ∧ φ 1 = .int .i64 (a : Nat) ∧ φ 2 = .int .i64 (m : Nat) ∧ φ 3 = .int .i64 (b : Nat) ∧ φ 4 = .func (.func 39) #[] #[pt]) ∧ ∃ (i j : Nat), φ 14 = .int .i64 (i : Nat) ∧ φ 15 = .int .i64 (j : Nat) ∧ a ≤ i ∧ i ≤ j ∧ j ≤ m ∧ gk = j - i ∧ (∀ t, a ≤ t → t < i → ¬ f (xs.getD m 0) < f (xs.getD t 0)) ∧ (∀ t, j ≤ t → t < m → f (xs.getD m 0) < f (xs.getD t 0)) ∧ At wr g (.cells (ints xs ++ rest).toArray 3) ∧ Keeps (· = g) w wr) (m - a) ?_ ?_
      · exact ⟨⟨rfl, rfl, rfl, rfl, rfl⟩, a, m, rfl, rfl, Nat.le_refl _, by omega, Nat.le_refl _, rfl, (fun t h1 h2 => absurd h2 (by omega)), (fun t h1 h2 => absurd h2 (by omega)), hat, Keeps.refl _ _⟩
      · rintro gk3 φ wr3 ⟨⟨h_0, h_1, h_2, h_3, h_4⟩, i, j, h_14, h_15, hi1, hi2, hi3, hgk, hlo, hhi, hat, hK⟩
        obtain ⟨φ0, rfl⟩ : ∃ φ0, φ = upd (upd (upd (upd (upd (upd (upd φ0 0 (.slice (some ⟨g, 0, none⟩) n cap)) 1 (.int .i64 (a : Nat))) 2 (.int .i64 (m : Nat))) 3 (.int .i64 (b : Nat))) 4 (.func (.func 39) #[] #[pt])) 14 (.int .i64 (i : Nat))) 15 (.int .i64 (j : Nat)) := ⟨φ, by rw [upd_of h_0, upd_of h_1, upd_of h_2, upd_of h_3, upd_of h_4, upd_of h_14, upd_of h_15]⟩
        clear h_0 h_1 h_2 h_3 h_4 h_14 h_15
        have hsz := hK.size
        refine RW.seq ?_
        refine RW.seq ?_
        refine RW.region ?_
        refine RL.opd (v := .int .i64 (i : Nat)) 83 rfl rfl rfl (X_move rfl) ?_
        refine RL.opd (v := .int .i64 (j : Nat)) 84 rfl rfl rfl (X_move rfl) ?_
        refine RL.opd (v := .bool (decide (((i : Nat) : Int) < (j : Nat)))) 85 rfl rfl rfl (X_lss rfl rfl) ?_
        refine RL.nil ?_
        refine RW.cond rfl (fun hlt3 => ?_) (fun hlt3 => ?_)
        · -- slot 85: True
          refine RW.skip ?_
          refine RW.block ?_
          refine RW.seq ?_
          have hlt3 := of_decide_eq_true hlt3
          have hM : i ≤ ((i + j) / 2) ∧ ((i + j) / 2) < j := by omega
          refine RW.region ?_
          refine RL.opd (v := .int .i64 (i : Nat)) 86 rfl rfl rfl (X_move rfl) ?_
          refine RL.opd (v := .int .i64 (j : Nat)) 87 rfl rfl rfl (X_move rfl) ?_
          refine RL.opd (v := .int .i64 (((i : Nat) : Int) + (j : Nat))) 88 rfl rfl rfl (X_add rfl rfl (by omega) rfl) ?_
          refine RL.opd 89 rfl rfl rfl (X_convU Try.underlying3 Try.underlying185 rfl (by omega)) ?_
          refine RL.opd 90 rfl rfl rfl (X_shr1 rfl rfl) ?_
          refine RL.opd (v := .int .i64 (((i + j) / 2) : Nat)) 91 rfl rfl rfl (X_convI Try.underlying185 Try.underlying3 rfl (by omega) (show ((i : Int) + (j : Int)) / 2 = ((((i + j) / 2) : Nat) : Int) by omega)) ?_
          refine RL.opd (v := .int .i64 (((i + j) / 2) : Nat)) 16 rfl rfl rfl (X_assign rfl) ?_
          refine RL.nil ?_
          refine RW.seq ?_
          refine RW.drawK Try.mixed (fun w19 hw20 hcl hS => ?_)
          have K21 : Keeps none_ wr3 w19 := by rw [hw20]; exact Keeps.drew _ _
          clear hw20
          have sz22 := K21.size
          replace hat := K21.at_ hat (fun h => h)
          have KK23 := hK.trans (K21.mono fun _ h => h.elim)
          refine RD.takesK (by kernel_rfl) [0, 1, 2, 3, 4, 5, 6, 7, 8] 3 rfl (by kernel_rfl) hcl hS ?_
          refine RQ.opd 92 rfl rfl rfl (Yld.plain (v := .func (.func 39) #[] #[pt]) rfl (fun _ _ => (X_move rfl))) ?_
          refine RQ.opd 93 rfl rfl rfl (Yld.plain (v := .slice (some ⟨g, 0, none⟩) n cap) rfl (fun _ _ => (X_move rfl))) ?_
          refine RQ.opd 94 rfl rfl rfl (Yld.plain (v := .int .i64 (m : Nat)) rfl (fun _ _ => (X_move rfl))) ?_
          refine RQ.opd 95 rfl rfl rfl (Yld.plain (v := .pointer (some ⟨g, 0 + (m) * 1, none⟩)) rfl (fun _ _ => (X_indexAddr Try.underlying27 Try.inf3 rfl rfl (by omega)))) ?_
          refine RQ.opd 96 rfl rfl rfl (Yld.K (v := .int .i64 (xs.getD (m) 0)) rfl (fun _ hk => (X_load Try.underlying3 rfl rfl (hk.cell (at_get hat (by omega)) (fun h => h))))) ?_
          refine RQ.opd 97 rfl rfl rfl (Yld.plain (v := .slice (some ⟨g, 0, none⟩) n cap) rfl (fun _ _ => (X_move rfl))) ?_
          refine RQ.opd 98 rfl rfl rfl (Yld.plain (v := .int .i64 (((i + j) / 2) : Nat)) rfl (fun _ _ => (X_move rfl))) ?_
          refine RQ.opd 99 rfl rfl rfl (Yld.plain (v := .pointer (some ⟨g, 0 + (((i + j) / 2)) * 1, none⟩)) rfl (fun _ _ => (X_indexAddr Try.underlying27 Try.inf3 rfl rfl (by omega)))) ?_
          refine RQ.opd 100 rfl rfl rfl (Yld.K (v := .int .i64 (xs.getD (((i + j) / 2)) 0)) rfl (fun _ hk => (X_load Try.underlying3 rfl rfl (hk.cell (at_get hat (by omega)) (fun h => h))))) ?_
          refine RQ.nil ?_
          clear hcl hS
          intro hcl hS
          refine RD.one (i := 9) rfl (by kernel_rfl) hcl hS ?_
          refine RD.calls (by kernel_rfl) hcl rfl rfl (X_cmp rfl Try.en39 rfl rfl) ⟨rfl, rfl⟩ ((hC _ (KK23) (xs.getD (m) 0) (xs.getD ((i + j) / 2) 0) (hSg _ (by omega) (by omega)) (hSg _ (by omega) (by omega)))) ?_
          rintro e w2 ⟨rfl, rfl⟩
          refine ⟨_, rfl, SK.same hS, ?_⟩
          clear hcl hS
          intro hcl hS
          refine RD.takesK (by kernel_rfl) [10, 11] 0 rfl (by kernel_rfl) hcl hS ?_
          refine RQ.opd 102 rfl rfl rfl (Yld.plain (v := .bool (decide (((f (xs.getD (m) 0) - f (xs.getD ((i + j) / 2) 0)) : Int) < 0))) rfl (fun _ _ => (X_lss rfl rfl))) ?_
          refine RQ.opd 103 rfl rfl rfl (Yld.plain (v := .bool (!(decide (((f (xs.getD (m) 0) - f (xs.getD ((i + j) / 2) 0)) : Int) < 0)))) rfl (fun _ _ => (X_not rfl))) ?_
          refine RQ.nil ?_
          clear hcl hS
          intro hcl hS
          refine RD.done (by kernel_rfl) hcl hS ?_
          refine RW.cond rfl (fun hc3 => ?_) (fun hc3 => ?_)
          · -- slot 103: True
            refine RW.region ?_
            refine RL.opd (v := .int .i64 (((i + j) / 2) : Nat)) 104 rfl rfl rfl (X_move rfl) ?_
            refine RL.opd (v := .int .i64 ((((i + j) / 2) + 1 : Nat) : Int)) 105 rfl rfl rfl (X_add rfl rfl (by omega) (show ((((i + j) / 2) : Nat) : Int) + 1 = ((((i + j) / 2) + 1 : Nat) : Int) by omega)) ?_
            refine RL.opd (v := .int .i64 ((((i + j) / 2) + 1 : Nat) : Int)) 14 rfl rfl rfl (X_assign rfl) ?_
            refine RL.nil ?_
            refine ⟨j - (((i + j) / 2) + 1), by omega, ⟨rfl, rfl, rfl, rfl, rfl⟩, ?_⟩
            have hc3 : ¬ (f (xs.getD m 0) - f (xs.getD ((i + j) / 2) 0) < 0) := by simpa using hc3
            refine ⟨((i + j) / 2) + 1, j, rfl, rfl, by omega, by omega, hi3, rfl, fun t h1 h2 => ?_, hhi, hat, KK23⟩
            have := hmu t ((i + j) / 2) h1 (by omega) (by omega); omega
          · -- slot 103: False
            refine RW.region ?_
            refine RL.opd (v := .int .i64 (((i + j) / 2) : Nat)) 106 rfl rfl rfl (X_move rfl) ?_
            refine RL.opd (v := .int .i64 (((i + j) / 2) : Nat)) 15 rfl rfl rfl (X_assign rfl) ?_
            refine RL.nil ?_
            refine ⟨((i + j) / 2) - i, by omega, ⟨rfl, rfl, rfl, rfl, rfl⟩, ?_⟩
            have hc3 : f (xs.getD m 0) - f (xs.getD ((i + j) / 2) 0) < 0 := by simpa using hc3
            refine ⟨i, ((i + j) / 2), rfl, rfl, hi1, by omega, by omega, rfl, hlo, fun t h1 h2 => ?_, hat, KK23⟩
            have := hmu ((i + j) / 2) t (by omega) h1 h2; omega
        · -- slot 85: False
          refine RW.exit ?_
          refine RW.seq ?_
          refine RW.seq ?_
          refine RW.region ?_
          refine RL.opd (v := .int .i64 (m : Nat)) 107 rfl rfl rfl (X_move rfl) ?_
          refine RL.opd (v := .int .i64 (m : Nat)) 17 rfl rfl rfl (X_assign rfl) ?_
          refine RL.nil ?_
          refine RW.block ?_
          have hij : j = i := by have := of_decide_eq_false hlt3; omega
          subst hij
          obtain ⟨y, hvy⟩ : ∃ y, v = [y] := List.length_eq_one_iff.1 (by simp at h1v; omega)
          have hvl : v.length = 1 := by rw [hvy]; rfl
          have hym : xs.getD m 0 = y := by rw [hgv m (Nat.le_refl _) (by omega), hvy]; simp
          refine RW.loop (fun gk φ wr => (φ 0 = .slice (some ⟨g, 0, none⟩) n cap ∧ φ 1 = .int .i64 (a : Nat) ∧ φ 2 = .int .i64 (m : Nat) ∧ φ 3 = .int .i64 (b : Nat) ∧ φ 4 = .func (.func 39) #[] #[pt] ∧ φ 14 = .int .i64 (j : Nat)) ∧ ∃ (k : Nat), φ 17 = .int .i64 (k : Nat) ∧ j ≤ k ∧ k ≤ m ∧ gk = k - j ∧ At wr g (.cells (ints (p ++ u.take (k - a) ++ y :: u.drop (k - a) ++ q) ++ rest).toArray 3) ∧ Keeps (· = g) w wr) (m - j) ?_ ?_
          · exact ⟨⟨rfl, rfl, rfl, rfl, rfl, rfl⟩, m, rfl, by omega, Nat.le_refl _, rfl, (by rw [List.take_of_length_le (by omega), List.drop_of_length_le (by omega)]; rw [← hxs, hvy] at hat; simpa using hat), hK⟩
          · rintro gk4 φ wr4 ⟨⟨h_0, h_1, h_2, h_3, h_4, h_14⟩, k, h_17, hk1, hk2, hgk, hat, hK⟩
            obtain ⟨φ0, rfl⟩ : ∃ φ0, φ = upd (upd (upd (upd (upd (upd (upd φ0 0 (.slice (some ⟨g, 0, none⟩) n cap)) 1 (.int .i64 (a : Nat))) 2 (.int .i64 (m : Nat))) 3 (.int .i64 (b : Nat))) 4 (.func (.func 39) #[] #[pt])) 14 (.int .i64 (j : Nat))) 17 (.int .i64 (k : Nat)) := ⟨φ, by rw [upd_of h_0, upd_of h_1, upd_of h_2, upd_of h_3, upd_of h_4, upd_of h_14, upd_of h_17]⟩
            clear h_0 h_1 h_2 h_3 h_4 h_14 h_17
            have hsz := hK.size
            refine RW.seq ?_
            refine RW.seq ?_
            refine RW.region ?_
            refine RL.opd (v := .int .i64 (k : Nat)) 108 rfl rfl rfl (X_move rfl) ?_
            refine RL.opd (v := .int .i64 (j : Nat)) 109 rfl rfl rfl (X_move rfl) ?_
            refine RL.opd (v := .bool (decide (((j : Nat) : Int) < (k : Nat)))) 110 rfl rfl rfl (X_gtr rfl rfl) ?_
            refine RL.nil ?_
            refine RW.cond rfl (fun hlt4 => ?_) (fun hlt4 => ?_)
            · -- slot 110: True
              refine RW.skip ?_
              refine RW.seq ?_
              refine RW.block ?_
              have hlt4 := of_decide_eq_true hlt4
              have hlny : (p ++ u.take (k - a) ++ y :: u.drop (k - a) ++ q).length = n := by
                rw [hvy] at hl'; simp only [List.length_append, List.length_cons, List.length_take, List.length_drop, List.length_nil] at hl' ⊢; omega
              generalize hys : p ++ u.take (k - a) ++ y :: u.drop (k - a) ++ q = ys at hat hlny
              refine RW.drawKU 15 Try.mixed (fun w24 hw25 hcl hS => ?_)
              have K26 : Keeps none_ wr4 w24 := by rw [hw25]; exact Keeps.drew _ _
              clear hw25
              have sz27 := K26.size
              replace hat := K26.at_ hat (fun h => h)
              have KK28 := hK.trans (K26.mono fun _ h => h.elim)
              refine RD.takesKU (by kernel_rfl) [0, 1, 2, 3, 4, 5, 6, 7, 8, 9, 10, 11, 12, 13, 14] 3 rfl (by kernel_rfl) rfl hcl hS ?_
              refine RQ.opd 113 rfl rfl rfl (Yld.plain (v := .slice (some ⟨g, 0, none⟩) n cap) rfl (fun _ _ => (X_move rfl))) ?_
              refine RQ.opd 114 rfl rfl rfl (Yld.plain (v := .int .i64 (k : Nat)) rfl (fun _ _ => (X_move rfl))) ?_
              refine RQ.opd 115 rfl rfl rfl (Yld.plain (v := .slice (some ⟨g, 0, none⟩) n cap) rfl (fun _ _ => (X_move rfl))) ?_
              refine RQ.opd 116 rfl rfl rfl (Yld.plain (v := .int .i64 (k : Nat)) rfl (fun _ _ => (X_move rfl))) ?_
              refine RQ.opd 117 rfl rfl rfl (Yld.plain (v := .int .i64 ((k - 1 : Nat) : Int)) rfl (fun _ _ => (X_sub rfl rfl (by omega) (show (k : Int) - 1 = ((k - 1 : Nat) : Int) by omega)))) ?_
              refine RQ.opd 118 rfl rfl rfl (Yld.plain (v := .slice (some ⟨g, 0, none⟩) n cap) rfl (fun _ _ => (X_move rfl))) ?_
              refine RQ.opd 119 rfl rfl rfl (Yld.plain (v := .int .i64 (k : Nat)) rfl (fun _ _ => (X_move rfl))) ?_
              refine RQ.opd 120 rfl rfl rfl (Yld.plain (v := .int .i64 ((k - 1 : Nat) : Int)) rfl (fun _ _ => (X_sub rfl rfl (by omega) (show (k : Int) - 1 = ((k - 1 : Nat) : Int) by omega)))) ?_
              refine RQ.opd 121 rfl rfl rfl (Yld.plain (v := .pointer (some ⟨g, 0 + (k - 1) * 1, none⟩)) rfl (fun _ _ => (X_indexAddr Try.underlying27 Try.inf3 rfl rfl (by omega)))) ?_
              refine RQ.opd 122 rfl rfl rfl (Yld.KU (v := .int .i64 (ys.getD (k - 1) 0)) 18 rfl (by kernel_rfl) (fun _ hk => (X_load Try.underlying3 rfl rfl (hk.cell (at_get hat (by omega)) (fun h => h))))) ?_
              refine RQ.opd 123 rfl rfl rfl (Yld.plain (v := .slice (some ⟨g, 0, none⟩) n cap) rfl (fun _ _ => (X_move rfl))) ?_
              refine RQ.opd 124 rfl rfl rfl (Yld.plain (v := .int .i64 (k : Nat)) rfl (fun _ _ => (X_move rfl))) ?_
              refine RQ.opd 125 rfl rfl rfl (Yld.plain (v := .pointer (some ⟨g, 0 + (k) * 1, none⟩)) rfl (fun _ _ => (X_indexAddr Try.underlying27 Try.inf3 rfl rfl (by omega)))) ?_
              refine RQ.opd 126 rfl rfl rfl (Yld.KU (v := .int .i64 (ys.getD (k) 0)) 18 rfl (by kernel_rfl) (fun _ hk => (X_load Try.underlying3 rfl rfl (hk.cell (at_get hat (by omega)) (fun h => h))))) ?_
              refine RQ.opd 127 rfl rfl rfl (Yld.plain (v := .pointer (some ⟨g, 0 + (k) * 1, none⟩)) rfl (fun _ _ => (X_indexAddr Try.underlying27 Try.inf3 rfl rfl (by omega)))) ?_
              refine RQ.nil ?_
              clear hcl hS
              intro hcl hS
              refine RD.one (i := 15) rfl (by kernel_rfl) hcl hS ?_
              refine RD.storeAt (v := .int .i64 (ys.getD (k - 1) 0)) (by kernel_rfl) hcl rfl rfl rfl rfl Try.inf3 rfl rfl rfl rfl hat (by simp only [List.size_toArray, List.length_append, ints_len]; omega) (fun _ _ _ => (SKU.now hcl rfl)) ?_
              clear hcl hS
              intro w29 hB31 K30 hcl hS
              replace hB31 := at_set hB31 (by omega)
              have KK32 := KK28.trans K30
              refine RD.takesKU (by kernel_rfl) [16] 1 rfl (by kernel_rfl) rfl hcl hS ?_
              refine RQ.opd 128 rfl rfl rfl (Yld.plain (v := .pointer (some ⟨g, 0 + (k - 1) * 1, none⟩)) rfl (fun _ _ => (X_indexAddr Try.underlying27 Try.inf3 rfl rfl (by omega)))) ?_
              refine RQ.nil ?_
              clear hcl hS
              intro hcl hS
              refine RD.one (i := 17) rfl (by kernel_rfl) hcl hS ?_
              refine RD.storeAt (v := .int .i64 (ys.getD (k) 0)) (by kernel_rfl) hcl rfl rfl rfl rfl Try.inf3 rfl rfl rfl rfl hB31 (by simp only [List.size_toArray, List.length_append, ints_len, List.length_set]; omega) (fun _ _ _ => (SKU.past rfl (by kernel_rfl))) ?_
              clear hcl hS
              intro w33 hB35 K34 hcl hS
              replace hB35 := at_set hB35 (by simp only [List.length_set]; omega)
              have KK36 := KK32.trans K34
              refine RD.done (by kernel_rfl) hcl hS ?_
              refine RW.region ?_
              refine RL.opd (v := .int .i64 (k : Nat)) 111 rfl rfl rfl (X_move rfl) ?_
              refine RL.opd (v := .int .i64 ((k - 1 : Nat) : Int)) 112 rfl rfl rfl (X_sub rfl rfl (by omega) (show (k : Int) - 1 = ((k - 1 : Nat) : Int) by omega)) ?_
              refine RL.opd (v := .int .i64 ((k - 1 : Nat) : Int)) 17 rfl rfl rfl (X_assign rfl) ?_
              refine RL.nil ?_
              refine ⟨gk4 - 1, by omega, ⟨rfl, rfl, rfl, rfl, rfl, rfl⟩, ?_⟩
              refine ⟨k - 1, rfl, by omega, by omega, by omega, ?_, KK36⟩
              have hku : k - 1 - a < u.length := by omega
              have e1 : u.drop (k - 1 - a) = u[k - 1 - a] :: u.drop (k - a) := by rw [List.drop_eq_getElem_cons hku, show k - 1 - a + 1 = k - a by omega]
              have e2 : u.take (k - a) = u.take (k - 1 - a) ++ [u[k - 1 - a]] := by rw [show k - a = (k - 1 - a) + 1 by omega]; exact List.take_succ_eq_append_getElem hku
              have e3 : ys = (p ++ u.take (k - 1 - a)) ++ u[k - 1 - a] :: ([] ++ y :: (u.drop (k - a) ++ q)) := by rw [← hys, e2]; simp only [List.append_assoc, List.cons_append, List.nil_append]
              have e4 := swp_down (P := p ++ u.take (k - 1 - a)) (M := []) (Q := u.drop (k - a) ++ q) (x := u[k - 1 - a]) (y := y) (i := k - 1) (j := k) (by simp; omega) (by simp; omega)
              rw [← e3] at e4
              have e5 : p ++ u.take (k - 1 - a) ++ y :: u.drop (k - 1 - a) ++ q = swp ys k (k - 1) := by rw [e4, e1]; simp only [List.append_assoc, List.cons_append, List.nil_append]
              rw [e5]; exact hB35
            · -- slot 110: False
              refine RW.exit ?_
              refine RW.ret ?_
              have hk : k = j := by have := of_decide_eq_false hlt4; omega
              subst hk
              have hT : Two f u [y] := hvy ▸ T
              have hs := one_right (i := k - a) hT (by omega) (fun t ht => by have := hlo (a + t) (by omega) (by omega); rw [hym, hgu _ (by omega) (by omega), Nat.add_sub_cancel_left] at this; exact this)
                (fun t ht hl => by have := hhi (a + t) (by omega) (by omega); rw [hym, hgu _ (by omega) (by omega), Nat.add_sub_cancel_left] at this; exact this)
              refine ret0 (.inl rfl) rfl ⟨_, rfl, hvy ▸ hs, ?_, hK⟩
              have e : p ++ (u.take (k - a) ++ y :: u.drop (k - a)) ++ q = p ++ u.take (k - a) ++ y :: u.drop (k - a) ++ q := by simp only [List.append_assoc]
              rw [e]; exact hat
    · -- slot 80: False
      refine RW.skip ?_
      refine RW.seq ?_
      have h1u : ¬ u.length = 1 := by simp at h1u; omega
      have h1v : ¬ v.length = 1 := by simp at h1v; omega
      obtain ⟨c0, hc0⟩ : ∃ c0, (a + b) / 2 = c0 := ⟨_, rfl⟩
      refine RW.region ?_
      refine RL.opd (v := .int .i64 (a : Nat)) 129 rfl rfl rfl (X_move rfl) ?_
      refine RL.opd (v := .int .i64 (b : Nat)) 130 rfl rfl rfl (X_move rfl) ?_
      refine RL.opd (v := .int .i64 (((a : Nat) : Int) + (b : Nat))) 131 rfl rfl rfl (X_add rfl rfl (by omega) rfl) ?_
      refine RL.opd 132 rfl rfl rfl (X_convU Try.underlying3 Try.underlying185 rfl (by omega)) ?_
      refine RL.opd 133 rfl rfl rfl (X_shr1 rfl rfl) ?_
      refine RL.opd (v := .int .i64 (c0 : Nat)) 134 rfl rfl rfl (X_convI Try.underlying185 Try.underlying3 rfl (by omega) (show ((a : Int) + (b : Int)) / 2 = ((c0 : Nat) : Int) by omega)) ?_
      refine RL.opd (v := .int .i64 (c0 : Nat)) 18 rfl rfl rfl (X_assign rfl) ?_
      refine RL.nil ?_
      refine RW.seq ?_
      refine RW.region ?_
      refine RL.opd (v := .int .i64 (c0 : Nat)) 135 rfl rfl rfl (X_move rfl) ?_
      refine RL.opd (v := .int .i64 (m : Nat)) 136 rfl rfl rfl (X_move rfl) ?_
      refine RL.opd (v := .int .i64 ((c0 + m : Nat) : Int)) 137 rfl rfl rfl (X_add rfl rfl (by omega) (show (c0 : Int) + (m : Int) = ((c0 + m : Nat) : Int) by omega)) ?_
      refine RL.opd (v := .int .i64 ((c0 + m : Nat) : Int)) 19 rfl rfl rfl (X_assign rfl) ?_
      refine RL.nil ?_
      refine RW.seq ?_
      refine RW.region ?_
      refine RL.opd (v := .int .i64 0) 20 rfl rfl rfl (X_assign rfl) ?_
      refine RL.opd (v := .int .i64 0) 21 rfl rfl rfl (X_assign rfl) ?_
      refine RL.nil ?_
      refine RW.cut (fun φ wr => (φ 0 = .slice (some ⟨g, 0, none⟩) n cap ∧ φ 1 = .int .i64 (a : Nat) ∧ φ 2 = .int .i64 (m : Nat) ∧ φ 3 = .int .i64 (b : Nat) ∧ φ 4 = .func (.func 39) #[] #[pt] ∧ φ 18 = .int .i64 (c0 : Nat) ∧ φ 19 = .int .i64 ((c0 + m : Nat) : Int)) ∧ ∃ (s0 r0 : Nat), φ 20 = .int .i64 (s0 : Nat) ∧ φ 21 = .int .i64 (r0 : Nat) ∧ ((c0 < m ∧ s0 + b = c0 + m ∧ r0 = c0) ∨ (m ≤ c0 ∧ s0 = a ∧ r0 = m)) ∧ At wr g (.cells (ints xs ++ rest).toArray 3) ∧ Keeps (· = g) w wr) ?_ ?_
      · -- up to the cut
        refine RW.seq ?_
        refine RW.region ?_
        refine RL.opd (v := .int .i64 (m : Nat)) 138 rfl rfl rfl (X_move rfl) ?_
        refine RL.opd (v := .int .i64 (c0 : Nat)) 139 rfl rfl rfl (X_move rfl) ?_
        refine RL.opd (v := .bool (decide (((c0 : Nat) : Int) < (m : Nat)))) 140 rfl rfl rfl (X_gtr rfl rfl) ?_
        refine RL.nil ?_
        refine RW.cond rfl (fun hbig => ?_) (fun hbig => ?_)
        · -- slot 140: True
          refine RW.seq ?_
          have hb1 := of_decide_eq_true hbig
          refine RW.region ?_
          refine RL.opd (v := .int .i64 ((c0 + m : Nat) : Int)) 141 rfl rfl rfl (X_move rfl) ?_
          refine RL.opd (v := .int .i64 (b : Nat)) 142 rfl rfl rfl (X_move rfl) ?_
          refine RL.opd (v := .int .i64 ((c0 + m - b : Nat) : Int)) 143 rfl rfl rfl (X_sub rfl rfl (by omega) (show ((c0 + m : Nat) : Int) - (b : Int) = ((c0 + m - b : Nat) : Int) by omega)) ?_
          refine RL.opd (v := .int .i64 ((c0 + m - b : Nat) : Int)) 20 rfl rfl rfl (X_assign rfl) ?_
          refine RL.nil ?_
          refine RW.region ?_
          refine RL.opd (v := .int .i64 (c0 : Nat)) 144 rfl rfl rfl (X_move rfl) ?_
          refine RL.opd (v := .int .i64 (c0 : Nat)) 21 rfl rfl rfl (X_assign rfl) ?_
          refine RL.nil ?_
          refine ⟨⟨rfl, rfl, rfl, rfl, rfl, rfl, rfl⟩, ?_⟩
          exact ⟨c0 + m - b, c0, rfl, rfl, .inl ⟨by simp at hbig; omega, by simp at hbig; omega, rfl⟩, hat, Keeps.refl _ _⟩
        · -- slot 140: False
          refine RW.seq ?_
          refine RW.region ?_
          refine RL.opd (v := .int .i64 (a : Nat)) 145 rfl rfl rfl (X_move rfl) ?_
          refine RL.opd (v := .int .i64 (a : Nat)) 20 rfl rfl rfl (X_assign rfl) ?_
          refine RL.nil ?_
          refine RW.region ?_
          refine RL.opd (v := .int .i64 (m : Nat)) 146 rfl rfl rfl (X_move rfl) ?_
          refine RL.opd (v := .int .i64 (m : Nat)) 21 rfl rfl rfl (X_assign rfl) ?_
          refine RL.nil ?_
          refine ⟨⟨rfl, rfl, rfl, rfl, rfl, rfl, rfl⟩, ?_⟩
          exact ⟨a, m, rfl, rfl, .inr ⟨by simp at hbig; omega, rfl, rfl⟩, hat, Keeps.refl _ _⟩
      · rintro φ wr5 ⟨⟨h_0, h_1, h_2, h_3, h_4, h_18, h_19⟩, s0, r0, h_20, h_21, hsr, hat, hK⟩
        obtain ⟨φ0, rfl⟩ : ∃ φ0, φ = upd (upd (upd (upd (upd (upd (upd (upd (upd φ0 0 (.slice (some ⟨g, 0, none⟩) n cap)) 1 (.int .i64 (a : Nat))) 2 (.int .i64 (m : Nat))) 3 (.int .i64 (b : Nat))) 4 (.func (.func 39) #[] #[pt])) 18 (.int .i64 (c0 : Nat))) 19 (.int .i64 ((c0 + m : Nat) : Int))) 20 (.int .i64 (s0 : Nat))) 21 (.int .i64 (r0 : Nat)) := ⟨φ, by rw [upd_of h_0, upd_of h_1, upd_of h_2, upd_of h_3, upd_of h_4, upd_of h_18, upd_of h_19, upd_of h_20, upd_of h_21]⟩
        clear h_0 h_1 h_2 h_3 h_4 h_18 h_19 h_20 h_21
        have hsz := hK.size
        refine RW.seq ?_
        refine RW.region ?_
        refine RL.opd (v := .int .i64 ((c0 + m : Nat) : Int)) 147 rfl rfl rfl (X_move rfl) ?_
        refine RL.opd (v := .int .i64 ((c0 + m - 1 : Nat) : Int)) 148 rfl rfl rfl (X_sub rfl rfl (by omega) (show ((c0 + m : Nat) : Int) - 1 = ((c0 + m - 1 : Nat) : Int) by omega)) ?_
        refine RL.opd (v := .int .i64 ((c0 + m - 1 : Nat) : Int)) 22 rfl rfl rfl (X_assign rfl) ?_
        refine RL.nil ?_
        refine RW.seq ?_
        refine RW.block ?_
        refine RW.loop (fun gk φ wr => (φ 0 = .slice (some ⟨g, 0, none⟩) n cap ∧ φ 1 = .int .i64 (a : Nat) ∧ φ 2 = .int .i64 (m : Nat) ∧ φ 3 = .int .i64 (b : Nat) ∧ φ 4 = .func (.func 39) #[] #[pt] ∧ φ 18 = .int .i64 (c0 : Nat) ∧ φ 19 = .int .i64 ((c0 + m : Nat) : Int) ∧ φ 22 = .int .i64 ((c0 + m - 1 : Nat) : Int)) ∧ ∃ (i j : Nat), φ 20 = .int .i64 (i : Nat) ∧ φ 21 = .int .i64 (j : Nat) ∧ s0 ≤ i ∧ i ≤ j ∧ j ≤ r0 ∧ gk = j - i ∧ (i = s0 ∨ ¬ f (xs.getD (c0 + m - i) 0) < f (xs.getD (i - 1) 0)) ∧ (j = r0 ∨ f (xs.getD (c0 + m - 1 - j) 0) < f (xs.getD j 0)) ∧ At wr g (.cells (ints xs ++ rest).toArray 3) ∧ Keeps (· = g) w wr) (r0 - s0) ?_ ?_
        · exact ⟨⟨rfl, rfl, rfl, rfl, rfl, rfl, rfl, rfl⟩, s0, r0, rfl, rfl, Nat.le_refl _, by omega, Nat.le_refl _, rfl, .inl rfl, .inl rfl, hat, hK⟩
        · rintro gk6 φ wr6 ⟨⟨h_0, h_1, h_2, h_3, h_4, h_18, h_19, h_22⟩, i, j, h_20, h_21, hi1, hi2, hi3, hgk, hlo, hhi, hat, hK⟩
          obtain ⟨φ0, rfl⟩ : ∃ φ0, φ = upd (upd (upd (upd (upd (upd (upd (upd (upd (upd φ0 0 (.slice (some ⟨g, 0, none⟩) n cap)) 1 (.int .i64 (a : Nat))) 2 (.int .i64 (m : Nat))) 3 (.int .i64 (b : Nat))) 4 (.func (.func 39) #[] #[pt])) 18 (.int .i64 (c0 : Nat))) 19 (.int .i64 ((c0 + m : Nat) : Int))) 22 (.int .i64 ((c0 + m - 1 : Nat) : Int))) 20 (.int .i64 (i : Nat))) 21 (.int .i64 (j : Nat)) := ⟨φ, by rw [upd_of h_0, upd_of h_1, upd_of h_2, upd_of h_3, upd_of h_4, upd_of h_18, upd_of h_19, upd_of h_22, upd_of h_20, upd_of h_21]⟩
          clear h_0 h_1 h_2 h_3 h_4 h_18 h_19 h_22 h_20 h_21
          have hsz := hK.size
          refine RW.seq ?_
          refine RW.seq ?_
          refine RW.region ?_
          refine RL.opd (v := .int .i64 (i : Nat)) 149 rfl rfl rfl (X_move rfl) ?_
          refine RL.opd (v := .int .i64 (j : Nat)) 150 rfl rfl rfl (X_move rfl) ?_
          refine RL.opd (v := .bool (decide (((i : Nat) : Int) < (j : Nat)))) 151 rfl rfl rfl (X_lss rfl rfl) ?_
          refine RL.nil ?_
          refine RW.cond rfl (fun hlt5 => ?_) (fun hlt5 => ?_)
          · -- slot 151: True
            refine RW.skip ?_
            refine RW.block ?_
            refine RW.seq ?_
            have hlt5 := of_decide_eq_true hlt5
            have hM : i ≤ ((i + j) / 2) ∧ ((i + j) / 2) < j := by omega
            have hMr : a ≤ ((i + j) / 2) ∧ ((i + j) / 2) < m ∧ m ≤ c0 + m - 1 - ((i + j) / 2) ∧ c0 + m - 1 - ((i + j) / 2) < b := by omega
            refine RW.region ?_
            refine RL.opd (v := .int .i64 (i : Nat)) 152 rfl rfl rfl (X_move rfl) ?_
            refine RL.opd (v := .int .i64 (j : Nat)) 153 rfl rfl rfl (X_move rfl) ?_
            refine RL.opd (v := .int .i64 (((i : Nat) : Int) + (j : Nat))) 154 rfl rfl rfl (X_add rfl rfl (by omega) rfl) ?_
            refine RL.opd 155 rfl rfl rfl (X_convU Try.underlying3 Try.underlying185 rfl (by omega)) ?_
            refine RL.opd 156 rfl rfl rfl (X_shr1 rfl rfl) ?_
            refine RL.opd (v := .int .i64 (((i + j) / 2) : Nat)) 157 rfl rfl rfl (X_convI Try.underlying185 Try.underlying3 rfl (by omega) (show ((i : Int) + (j : Int)) / 2 = ((((i + j) / 2) : Nat) : Int) by omega)) ?_
            refine RL.opd (v := .int .i64 (((i + j) / 2) : Nat)) 23 rfl rfl rfl (X_assign rfl) ?_
            refine RL.nil ?_
            refine RW.seq ?_
            refine RW.drawK Try.mixed (fun w37 hw38 hcl hS => ?_)
            have K39 : Keeps none_ wr6 w37 := by rw [hw38]; exact Keeps.drew _ _
            clear hw38
            have sz40 := K39.size
            replace hat := K39.at_ hat (fun h => h)
            have KK41 := hK.trans (K39.mono fun _ h => h.elim)
            refine RD.takesK (by kernel_rfl) [0, 1, 2, 3, 4, 5, 6, 7, 8, 9, 10] 3 rfl (by kernel_rfl) hcl hS ?_
            refine RQ.opd 158 rfl rfl rfl (Yld.plain (v := .func (.func 39) #[] #[pt]) rfl (fun _ _ => (X_move rfl))) ?_
            refine RQ.opd 159 rfl rfl rfl (Yld.plain (v := .slice (some ⟨g, 0, none⟩) n cap) rfl (fun _ _ => (X_move rfl))) ?_
            refine RQ.opd 160 rfl rfl rfl (Yld.plain (v := .int .i64 ((c0 + m - 1 : Nat) : Int)) rfl (fun _ _ => (X_move rfl))) ?_
            refine RQ.opd 161 rfl rfl rfl (Yld.plain (v := .int .i64 (((i + j) / 2) : Nat)) rfl (fun _ _ => (X_move rfl))) ?_
            refine RQ.opd 162 rfl rfl rfl (Yld.plain (v := .int .i64 ((c0 + m - 1 - ((i + j) / 2) : Nat) : Int)) rfl (fun _ _ => (X_sub rfl rfl (by omega) (show ((c0 + m - 1 : Nat) : Int) - ((((i + j) / 2) : Nat) : Int) = ((c0 + m - 1 - ((i + j) / 2) : Nat) : Int) by omega)))) ?_
            refine RQ.opd 163 rfl rfl rfl (Yld.plain (v := .pointer (some ⟨g, 0 + (c0 + m - 1 - ((i + j) / 2)) * 1, none⟩)) rfl (fun _ _ => (X_indexAddr Try.underlying27 Try.inf3 rfl rfl (by omega)))) ?_
            refine RQ.opd 164 rfl rfl rfl (Yld.K (v := .int .i64 (xs.getD (c0 + m - 1 - ((i + j) / 2)) 0)) rfl (fun _ hk => (X_load Try.underlying3 rfl rfl (hk.cell (at_get hat (by omega)) (fun h => h))))) ?_
            refine RQ.opd 165 rfl rfl rfl (Yld.plain (v := .slice (some ⟨g, 0, none⟩) n cap) rfl (fun _ _ => (X_move rfl))) ?_
            refine RQ.opd 166 rfl rfl rfl (Yld.plain (v := .int .i64 (((i + j) / 2) : Nat)) rfl (fun _ _ => (X_move rfl))) ?_
            refine RQ.opd 167 rfl rfl rfl (Yld.plain (v := .pointer (some ⟨g, 0 + (((i + j) / 2)) * 1, none⟩)) rfl (fun _ _ => (X_indexAddr Try.underlying27 Try.inf3 rfl rfl (by omega)))) ?_
            refine RQ.opd 168 rfl rfl rfl (Yld.K (v := .int .i64 (xs.getD (((i + j) / 2)) 0)) rfl (fun _ hk => (X_load Try.underlying3 rfl rfl (hk.cell (at_get hat (by omega)) (fun h => h))))) ?_
            refine RQ.nil ?_
            clear hcl hS
            intro hcl hS
            refine RD.one (i := 11) rfl (by kernel_rfl) hcl hS ?_
            refine RD.calls (by kernel_rfl) hcl rfl rfl (X_cmp rfl Try.en39 rfl rfl) ⟨rfl, rfl⟩ ((hC _ (KK41) (xs.getD (c0 + m - 1 - ((i + j) / 2)) 0) (xs.getD ((i + j) / 2) 0) (hSg _ (by omega) (by omega)) (hSg _ (by omega) (by omega)))) ?_
            rintro e w2 ⟨rfl, rfl⟩
            refine ⟨_, rfl, SK.same hS, ?_⟩
            clear hcl hS
            intro hcl hS
            refine RD.takesK (by kernel_rfl) [12, 13] 0 rfl (by kernel_rfl) hcl hS ?_
            refine RQ.opd 170 rfl rfl rfl (Yld.plain (v := .bool (decide (((f (xs.getD (c0 + m - 1 - ((i + j) / 2)) 0) - f (xs.getD ((i + j) / 2) 0)) : Int) < 0))) rfl (fun _ _ => (X_lss rfl rfl))) ?_
            refine RQ.opd 171 rfl rfl rfl (Yld.plain (v := .bool (!(decide (((f (xs.getD (c0 + m - 1 - ((i + j) / 2)) 0) - f (xs.getD ((i + j) / 2) 0)) : Int) < 0)))) rfl (fun _ _ => (X_not rfl))) ?_
            refine RQ.nil ?_
            clear hcl hS
            intro hcl hS
            refine RD.done (by kernel_rfl) hcl hS ?_
            refine RW.cond rfl (fun hc5 => ?_) (fun hc5 => ?_)
            · -- slot 171: True
              refine RW.region ?_
              refine RL.opd (v := .int .i64 (((i + j) / 2) : Nat)) 172 rfl rfl rfl (X_move rfl) ?_
              refine RL.opd (v := .int .i64 ((((i + j) / 2) + 1 : Nat) : Int)) 173 rfl rfl rfl (X_add rfl rfl (by omega) (show ((((i + j) / 2) : Nat) : Int) + 1 = ((((i + j) / 2) + 1 : Nat) : Int) by omega)) ?_
              refine RL.opd (v := .int .i64 ((((i + j) / 2) + 1 : Nat) : Int)) 20 rfl rfl rfl (X_assign rfl) ?_
              refine RL.nil ?_
              refine ⟨j - (((i + j) / 2) + 1), by omega, ⟨rfl, rfl, rfl, rfl, rfl, rfl, rfl, rfl⟩, ?_⟩
              have hc5 : ¬ (f (xs.getD (c0 + m - 1 - ((i + j) / 2)) 0) - f (xs.getD ((i + j) / 2) 0) < 0) := by simpa using hc5
              refine ⟨((i + j) / 2) + 1, j, rfl, rfl, by omega, by omega, hi3, rfl, .inr ?_, hhi, hat, KK41⟩
              rw [show c0 + m - (((i + j) / 2) + 1) = c0 + m - 1 - ((i + j) / 2) by omega, Nat.add_sub_cancel]; omega
            · -- slot 171: False
              refine RW.region ?_
              refine RL.opd (v := .int .i64 (((i + j) / 2) : Nat)) 174 rfl rfl rfl (X_move rfl) ?_
              refine RL.opd (v := .int .i64 (((i + j) / 2) : Nat)) 21 rfl rfl rfl (X_assign rfl) ?_
              refine RL.nil ?_
              refine ⟨((i + j) / 2) - i, by omega, ⟨rfl, rfl, rfl, rfl, rfl, rfl, rfl, rfl⟩, ?_⟩
              have hc5 : f (xs.getD (c0 + m - 1 - ((i + j) / 2)) 0) - f (xs.getD ((i + j) / 2) 0) < 0 := by simpa using hc5
              exact ⟨i, ((i + j) / 2), rfl, rfl, hi1, by omega, by omega, rfl, hlo, .inr (by omega), hat, KK41⟩
          · -- slot 151: False
            refine RW.exit ?_
            refine RW.seq ?_
            have hij : j = i := by have := of_decide_eq_false hlt5; omega
            subst hij
            have hjr : a ≤ j ∧ j ≤ m ∧ j ≤ c0 ∧ c0 + m - j ≤ b := by omega
            have h1c : 0 < j - a → c0 - j < v.length → lex f (u.getD (j - a - 1) 0) (v.getD (c0 - j) 0) := fun h1 h2 => by
              rcases hlo with h0 | h0
              · exfalso; omega
              · rw [hgv _ (by omega) (by omega), hgu _ (by omega) (by omega), show c0 + m - j - m = c0 - j by omega, show j - 1 - a = j - a - 1 by omega] at h0
                exact lex_of_not (T.lt _ (getD_mem (by omega)) _ (getD_mem (by omega))) h0
            have h2c : 0 < c0 - j → j - a < u.length → lex f (v.getD (c0 - j - 1) 0) (u.getD (j - a) 0) := fun h1 h2 => by
              rcases hhi with h0 | h0
              · exfalso; omega
              · rw [hgv _ (by omega) (by omega), hgu _ (by omega) (by omega), show c0 + m - 1 - j - m = c0 - j - 1 by omega] at h0
                exact lex_of_lt h0
            have hsp : p ++ u ++ v ++ q = (p ++ u.take (j - a)) ++ u.drop (j - a) ++ v.take (c0 - j) ++ (v.drop (c0 - j) ++ q) := by
              have e1 := List.take_append_drop (j - a) u
              have e2 := List.take_append_drop (c0 - j) v
              conv => lhs; rw [← e1, ← e2]
              simp only [List.append_assoc]
            rw [← hxs] at hat
            clear hlo hhi
            refine RW.region ?_
            refine RL.opd (v := .int .i64 ((c0 + m : Nat) : Int)) 175 rfl rfl rfl (X_move rfl) ?_
            refine RL.opd (v := .int .i64 (j : Nat)) 176 rfl rfl rfl (X_move rfl) ?_
            refine RL.opd (v := .int .i64 ((c0 + m - j : Nat) : Int)) 177 rfl rfl rfl (X_sub rfl rfl (by omega) (show ((c0 + m : Nat) : Int) - (j : Int) = ((c0 + m - j : Nat) : Int) by omega)) ?_
            refine RL.opd (v := .int .i64 ((c0 + m - j : Nat) : Int)) 24 rfl rfl rfl (X_assign rfl) ?_
            refine RL.nil ?_
            refine RW.cut (fun φ wr => (φ 0 = .slice (some ⟨g, 0, none⟩) n cap ∧ φ 1 = .int .i64 (a : Nat) ∧ φ 2 = .int .i64 (m : Nat) ∧ φ 3 = .int .i64 (b : Nat) ∧ φ 4 = .func (.func 39) #[] #[pt] ∧ φ 18 = .int .i64 (c0 : Nat) ∧ φ 20 = .int .i64 (j : Nat) ∧ φ 24 = .int .i64 ((c0 + m - j : Nat) : Int)) ∧ At wr g (.cells (ints ((p ++ u.take (j - a)) ++ v.take (c0 - j) ++ u.drop (j - a) ++ (v.drop (c0 - j) ++ q)) ++ rest).toArray 3) ∧ Keeps (· = g) w wr) ?_ ?_
            · -- up to the cut
              refine RW.seq ?_
              refine RW.region ?_
              refine RL.opd (v := .int .i64 (j : Nat)) 178 rfl rfl rfl (X_move rfl) ?_
              refine RL.opd (v := .int .i64 (m : Nat)) 179 rfl rfl rfl (X_move rfl) ?_
              refine RL.opd (v := .bool (decide (((j : Nat) : Int) < (m : Nat)))) 180 rfl rfl rfl (X_lss rfl rfl) ?_
              refine RL.opd (v := .bool (decide (((j : Nat) : Int) < (m : Nat)))) 181 rfl rfl rfl (X_move rfl) ?_
              refine RL.gopd (v := .int .i64 (m : Nat)) 182 rfl rfl rfl rfl (fun hg => (X_move rfl)) rfl rfl ?_
              refine RL.gopd (v := .int .i64 ((c0 + m - j : Nat) : Int)) 183 rfl rfl rfl rfl (fun hg => (X_move rfl)) rfl rfl ?_
              refine RL.gopd (v := .bool (decide (((m : Nat) : Int) < ((c0 + m - j : Nat) : Int)))) 184 rfl rfl rfl rfl (fun hg => (X_lss (gb_on hg) (gb_on hg))) rfl rfl ?_
              refine RL.opd (v := .bool (bif (decide (((j : Nat) : Int) < (m : Nat))) then (decide (((m : Nat) : Int) < ((c0 + m - j : Nat) : Int))) else false)) 185 rfl rfl rfl (X_pickB rfl (fun h => gbT h) (fun _ => rfl)) ?_
              refine RL.nil ?_
              refine RW.cond rfl (fun hrot => ?_) (fun hrot => ?_)
              · -- slot 185: True
                refine RW.region ?_
                refine RL.opd (v := .slice (some ⟨g, 0, none⟩) n cap) 186 rfl rfl rfl (X_move rfl) ?_
                refine RL.opd (v := .int .i64 (j : Nat)) 187 rfl rfl rfl (X_move rfl) ?_
                refine RL.opd (v := .int .i64 (m : Nat)) 188 rfl rfl rfl (X_move rfl) ?_
                refine RL.opd (v := .int .i64 ((c0 + m - j : Nat) : Int)) 189 rfl rfl rfl (X_move rfl) ?_
                refine RL.opd (v := .func (.func 39) #[] #[pt]) 190 rfl rfl rfl (X_move rfl) ?_
                have hcr : j < m ∧ m < c0 + m - j := by
                  have h1 : decide ((j : Int) < (m : Nat)) = true := by
                    cases h : decide ((j : Int) < (m : Nat)) with
                    | true => rfl
                    | false => rw [h] at hrot; simp at hrot
                  rw [h1] at hrot
                  have h2 := of_decide_eq_true h1
                  have h3 := of_decide_eq_true (show decide ((m : Int) < ((c0 + m - j : Nat) : Int)) = true from hrot)
                  omega
                have hlr : ((p ++ u.take (j - a)) ++ u.drop (j - a) ++ v.take (c0 - j) ++ (v.drop (c0 - j) ++ q)).length = n := by rw [← hsp]; exact hl
                rw [hsp] at hat
                refine RL.call rfl (X_callF Try.en117 rfl) ⟨rfl, rfl⟩ (rotate_any g n cap j m (c0 + m - j) (.func (.func 39) #[] #[pt]) (p ++ u.take (j - a)) (u.drop (j - a)) (v.take (c0 - j)) (v.drop (c0 - j) ++ q) rest wr6 hn hlr (by simp; omega) (by simp; omega) (by simp; omega) hcr.1 hcr.2 hat) ?_
                rintro e43 w42 ⟨rfl, hat2, hK2⟩
                refine ⟨_, rfl, ?_⟩
                have sz44 := hK2.size
                have KK45 := hK.trans hK2
                refine RL.nil ?_
                refine ⟨⟨rfl, rfl, rfl, rfl, rfl, rfl, rfl, rfl⟩, ?_⟩
                exact ⟨hat2, KK45⟩
              · -- slot 185: False
                refine RW.skip ?_
                refine ⟨⟨rfl, rfl, rfl, rfl, rfl, rfl, rfl, rfl⟩, ?_⟩
                have hcr : u.drop (j - a) = [] ∨ v.take (c0 - j) = [] := by
                  rcases and_f hrot with h0 | h0
                  · left; have := of_decide_eq_false h0; exact List.drop_of_length_le (by omega)
                  · right; have := of_decide_eq_false h0; rw [show c0 - j = 0 by omega]; rfl
                refine ⟨?_, hK⟩
                rw [hsp] at hat
                rcases hcr with h0 | h0 <;> rw [h0] at hat ⊢ <;> simpa using hat
            · rintro φ wr7 ⟨⟨h_0, h_1, h_2, h_3, h_4, h_18, h_20, h_24⟩, hat, hK⟩
              obtain ⟨φ0, rfl⟩ : ∃ φ0, φ = upd (upd (upd (upd (upd (upd (upd (upd φ0 0 (.slice (some ⟨g, 0, none⟩) n cap)) 1 (.int .i64 (a : Nat))) 2 (.int .i64 (m : Nat))) 3 (.int .i64 (b : Nat))) 4 (.func (.func 39) #[] #[pt])) 18 (.int .i64 (c0 : Nat))) 20 (.int .i64 (j : Nat))) 24 (.int .i64 ((c0 + m - j : Nat) : Int)) := ⟨φ, by rw [upd_of h_0, upd_of h_1, upd_of h_2, upd_of h_3, upd_of h_4, upd_of h_18, upd_of h_20, upd_of h_24]⟩
              clear h_0 h_1 h_2 h_3 h_4 h_18 h_20 h_24
              have hsz := hK.size
              refine RW.cut (fun φ wr => (φ 0 = .slice (some ⟨g, 0, none⟩) n cap ∧ φ 1 = .int .i64 (a : Nat) ∧ φ 2 = .int .i64 (m : Nat) ∧ φ 3 = .int .i64 (b : Nat) ∧ φ 4 = .func (.func 39) #[] #[pt] ∧ φ 18 = .int .i64 (c0 : Nat) ∧ φ 20 = .int .i64 (j : Nat) ∧ φ 24 = .int .i64 ((c0 + m - j : Nat) : Int)) ∧ ∃ (M1 : List Int), SortOf f (u.take (j - a) ++ v.take (c0 - j)) M1 ∧ At wr g (.cells (ints (p ++ M1 ++ u.drop (j - a) ++ (v.drop (c0 - j) ++ q)) ++ rest).toArray 3) ∧ Keeps (· = g) w wr) ?_ ?_
              · -- up to the cut
                refine RW.seq ?_
                refine RW.region ?_
                refine RL.opd (v := .int .i64 (a : Nat)) 192 rfl rfl rfl (X_move rfl) ?_
                refine RL.opd (v := .int .i64 (j : Nat)) 193 rfl rfl rfl (X_move rfl) ?_
                refine RL.opd (v := .bool (decide (((a : Nat) : Int) < (j : Nat)))) 194 rfl rfl rfl (X_lss rfl rfl) ?_
                refine RL.opd (v := .bool (decide (((a : Nat) : Int) < (j : Nat)))) 195 rfl rfl rfl (X_move rfl) ?_
                refine RL.gopd (v := .int .i64 (j : Nat)) 196 rfl rfl rfl rfl (fun hg => (X_move rfl)) rfl rfl ?_
                refine RL.gopd (v := .int .i64 (c0 : Nat)) 197 rfl rfl rfl rfl (fun hg => (X_move rfl)) rfl rfl ?_
                refine RL.gopd (v := .bool (decide (((j : Nat) : Int) < (c0 : Nat)))) 198 rfl rfl rfl rfl (fun hg => (X_lss (gb_on hg) (gb_on hg))) rfl rfl ?_
                refine RL.opd (v := .bool (bif (decide (((a : Nat) : Int) < (j : Nat))) then (decide (((j : Nat) : Int) < (c0 : Nat))) else false)) 199 rfl rfl rfl (X_pickB rfl (fun h => gbT h) (fun _ => rfl)) ?_
                refine RL.nil ?_
                refine RW.cond rfl (fun hr1 => ?_) (fun hr1 => ?_)
                · -- slot 199: True
                  refine RW.region ?_
                  refine RL.opd (v := .slice (some ⟨g, 0, none⟩) n cap) 200 rfl rfl rfl (X_move rfl) ?_
                  refine RL.opd (v := .int .i64 (a : Nat)) 201 rfl rfl rfl (X_move rfl) ?_
                  refine RL.opd (v := .int .i64 (j : Nat)) 202 rfl rfl rfl (X_move rfl) ?_
                  refine RL.opd (v := .int .i64 (c0 : Nat)) 203 rfl rfl rfl (X_move rfl) ?_
                  refine RL.opd (v := .func (.func 39) #[] #[pt]) 204 rfl rfl rfl (X_move rfl) ?_
                  have hcr : a < j ∧ j < c0 := by
                    have h1 : decide ((a : Int) < (j : Nat)) = true := by
                      cases h : decide ((a : Int) < (j : Nat)) with
                      | true => rfl
                      | false => rw [h] at hr1; simp at hr1
                    rw [h1] at hr1
                    have h2 := of_decide_eq_true h1
                    have h3 := of_decide_eq_true (show decide ((j : Int) < (c0 : Nat)) = true from hr1)
                    omega
                  have ea : ((p ++ u.take (j - a)) ++ v.take (c0 - j) ++ u.drop (j - a) ++ (v.drop (c0 - j) ++ q)) = p ++ u.take (j - a) ++ v.take (c0 - j) ++ (u.drop (j - a) ++ (v.drop (c0 - j) ++ q)) := by simp only [List.append_assoc]
                  rw [ea] at hat
                  have hlr : (p ++ u.take (j - a) ++ v.take (c0 - j) ++ (u.drop (j - a) ++ (v.drop (c0 - j) ++ q))).length = n := by simp only [List.length_append, List.length_take, List.length_drop]; omega
                  refine RL.call rfl (X_callF Try.en97 rfl) ⟨rfl, rfl⟩ (ih (c0 - a) (by omega) g n cap a j c0 pt f S p (u.take (j - a)) (v.take (c0 - j)) (u.drop (j - a) ++ (v.drop (c0 - j) ++ q)) rest wr7 (by simp; omega) hn hlr ha (by simp; omega) (by simp; omega) hcr.1 hcr.2 (T.take_take _ _) (fun x hx => hS x (take_mem hx)) (hC.keep hK) hat) ?_
                  rintro e47 w46 ⟨M1, rfl, hM1, hat2, hK2⟩
                  refine ⟨_, rfl, ?_⟩
                  have sz48 := hK2.size
                  have KK49 := hK.trans hK2
                  refine RL.nil ?_
                  refine ⟨⟨rfl, rfl, rfl, rfl, rfl, rfl, rfl, rfl⟩, ?_⟩
                  refine ⟨M1, hM1, ?_, KK49⟩
                  rw [← List.append_assoc] at hat2
                  exact hat2
                · -- slot 199: False
                  refine RW.skip ?_
                  refine ⟨⟨rfl, rfl, rfl, rfl, rfl, rfl, rfl, rfl⟩, ?_⟩
                  have hM1 : SortOf f (u.take (j - a) ++ v.take (c0 - j)) (u.take (j - a) ++ v.take (c0 - j)) := by
                    rcases and_f hr1 with h0 | h0
                    · have := of_decide_eq_false h0
                      rw [show j - a = 0 by omega, List.take_zero, List.nil_append]; exact SortOf.self (T.r.sublist (List.take_sublist _ _))
                    · have := of_decide_eq_false h0
                      rw [show c0 - j = 0 by omega, List.take_zero, List.append_nil]; exact SortOf.self (T.l.sublist (List.take_sublist _ _))
                  refine ⟨_, hM1, ?_, hK⟩
                  simpa only [List.append_assoc] using hat
              · rintro φ wr8 ⟨⟨h_0, h_1, h_2, h_3, h_4, h_18, h_20, h_24⟩, M1, hM1, hat, hK⟩
                obtain ⟨φ0, rfl⟩ : ∃ φ0, φ = upd (upd (upd (upd (upd (upd (upd (upd φ0 0 (.slice (some ⟨g, 0, none⟩) n cap)) 1 (.int .i64 (a : Nat))) 2 (.int .i64 (m : Nat))) 3 (.int .i64 (b : Nat))) 4 (.func (.func 39) #[] #[pt])) 18 (.int .i64 (c0 : Nat))) 20 (.int .i64 (j : Nat))) 24 (.int .i64 ((c0 + m - j : Nat) : Int)) := ⟨φ, by rw [upd_of h_0, upd_of h_1, upd_of h_2, upd_of h_3, upd_of h_4, upd_of h_18, upd_of h_20, upd_of h_24]⟩
                clear h_0 h_1 h_2 h_3 h_4 h_18 h_20 h_24
                have hsz := hK.size
                refine RW.seq ?_
                refine RW.region ?_
                refine RL.opd (v := .int .i64 (c0 : Nat)) 206 rfl rfl rfl (X_move rfl) ?_
                refine RL.opd (v := .int .i64 ((c0 + m - j : Nat) : Int)) 207 rfl rfl rfl (X_move rfl) ?_
                refine RL.opd (v := .bool (decide (((c0 : Nat) : Int) < ((c0 + m - j : Nat) : Int)))) 208 rfl rfl rfl (X_lss rfl rfl) ?_
                refine RL.opd (v := .bool (decide (((c0 : Nat) : Int) < ((c0 + m - j : Nat) : Int)))) 209 rfl rfl rfl (X_move rfl) ?_
                refine RL.gopd (v := .int .i64 ((c0 + m - j : Nat) : Int)) 210 rfl rfl rfl rfl (fun hg => (X_move rfl)) rfl rfl ?_
                refine RL.gopd (v := .int .i64 (b : Nat)) 211 rfl rfl rfl rfl (fun hg => (X_move rfl)) rfl rfl ?_
                refine RL.gopd (v := .bool (decide ((((c0 + m - j : Nat) : Int) : Int) < (b : Nat)))) 212 rfl rfl rfl rfl (fun hg => (X_lss (gb_on hg) (gb_on hg))) rfl rfl ?_
                refine RL.opd (v := .bool (bif (decide (((c0 : Nat) : Int) < ((c0 + m - j : Nat) : Int))) then (decide ((((c0 + m - j : Nat) : Int) : Int) < (b : Nat))) else false)) 213 rfl rfl rfl (X_pickB rfl (fun h => gbT h) (fun _ => rfl)) ?_
                refine RL.nil ?_
                refine RW.cond rfl (fun hr2 => ?_) (fun hr2 => ?_)
                · -- slot 213: True
                  refine RW.region ?_
                  refine RL.opd (v := .slice (some ⟨g, 0, none⟩) n cap) 214 rfl rfl rfl (X_move rfl) ?_
                  refine RL.opd (v := .int .i64 (c0 : Nat)) 215 rfl rfl rfl (X_move rfl) ?_
                  refine RL.opd (v := .int .i64 ((c0 + m - j : Nat) : Int)) 216 rfl rfl rfl (X_move rfl) ?_
                  refine RL.opd (v := .int .i64 (b : Nat)) 217 rfl rfl rfl (X_move rfl) ?_
                  refine RL.opd (v := .func (.func 39) #[] #[pt]) 218 rfl rfl rfl (X_move rfl) ?_
                  have hcr : c0 < c0 + m - j ∧ c0 + m - j < b := by
                    have h1 : decide ((c0 : Int) < ((c0 + m - j : Nat) : Int)) = true := by
                      cases h : decide ((c0 : Int) < ((c0 + m - j : Nat) : Int)) with
                      | true => rfl
                      | false => rw [h] at hr2; simp at hr2
                    rw [h1] at hr2
                    have h2 := of_decide_eq_true h1
                    have h3 := of_decide_eq_true (show decide (((c0 + m - j : Nat) : Int) < (b : Nat)) = true from hr2)
                    omega
                  have hM1l := hM1.len
                  simp only [List.length_append, List.length_take] at hM1l
                  have ea : p ++ M1 ++ u.drop (j - a) ++ (v.drop (c0 - j) ++ q) = (p ++ M1) ++ u.drop (j - a) ++ v.drop (c0 - j) ++ q := by simp only [List.append_assoc]
                  rw [ea] at hat
                  have hlr : ((p ++ M1) ++ u.drop (j - a) ++ v.drop (c0 - j) ++ q).length = n := by simp only [List.length_append, List.length_drop]; omega
                  refine RL.call rfl (X_callF Try.en97 rfl) ⟨rfl, rfl⟩ (ih (b - c0) (by omega) g n cap c0 (c0 + m - j) b pt f S (p ++ M1) (u.drop (j - a)) (v.drop (c0 - j)) q rest wr8 (by simp; omega) hn hlr (by simp; omega) (by simp; omega) (by simp; omega) hcr.1 hcr.2 (T.drop_drop _ _) (fun x hx => hS x (drop_mem hx)) (hC.keep hK) hat) ?_
                  rintro e51 w50 ⟨M2, rfl, hM2, hat2, hK2⟩
                  refine ⟨_, rfl, ?_⟩
                  have sz52 := hK2.size
                  have KK53 := hK.trans hK2
                  refine RL.nil ?_
                  refine ret0 (.inr rfl) rfl ⟨M1 ++ M2, rfl, cut_sorts T (by omega) (by omega) h1c h2c hM1 hM2, ?_, KK53⟩
                  rw [← List.append_assoc]; exact hat2
                · -- slot 213: False
                  refine RW.skip ?_
                  have hM2 : SortOf f (u.drop (j - a) ++ v.drop (c0 - j)) (u.drop (j - a) ++ v.drop (c0 - j)) := by
                    rcases and_f hr2 with h0 | h0
                    · have := of_decide_eq_false h0
                      rw [List.drop_of_length_le (by omega : u.length ≤ j - a), List.nil_append]; exact SortOf.self (T.r.sublist (List.drop_sublist _ _))
                    · have := of_decide_eq_false h0
                      rw [List.drop_of_length_le (by omega : v.length ≤ c0 - j), List.append_nil]; exact SortOf.self (T.l.sublist (List.drop_sublist _ _))
                  refine ret0 (.inr rfl) rfl ⟨_, rfl, cut_sorts T (by omega) (by omega) h1c h2c hM1 hM2, ?_, hK⟩
                  simpa only [List.append_assoc] using hat

theorem sym_any (N : Nat) : SymAt N := Nat.strongRecOn N sym_step

end Go.Proofs
