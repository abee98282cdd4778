/- The library's stable sort, whole. -/
import Derived.Test.YtjahbhpcaenllaaHwSym
namespace Hw.Sym
end Hw.Sym
namespace Go.Proofs
open Go.RowKit Go.Hw Hw.Sym
set_option maxRecDepth 10000 in
theorem stable_any (g n cap : Nat) (pt : Value) (f : Int → Int) (S : Int → Prop) (xs : List Int) (rest : List Value) (w : World) (hn : n ≤ 1000000) (hl : xs.length = n) (hxs : xs.Pairwise (· < ·)) (hS : ∀ x ∈ xs, S x) (hC : CmpOk Try.prog 39 pt g f S w) (hat : At w g (.cells (ints xs ++ rest).toArray 3)) :
    Calls Try.prog 69 #[.slice (some ⟨g, 0, none⟩) n cap, .int .i64 (n : Nat), .func (.func 39) #[] #[pt]] w fun e w' => ∃ ys, e = .returned (.tuple #[]) ∧ SortOf f xs ys ∧ At w' g (.cells (ints ys ++ rest).toArray 3) ∧ Keeps (· = g) w w' := by
  refine calls_of_RW Try.func69 rfl (Nat.le_of_ble_eq_true rfl) ?_
  refine RW.seq ?_
  refine RW.region ?_
  refine RL.opd (v := .int .i64 20) 6 rfl rfl rfl (X_assign rfl) ?_
  refine RL.nil ?_
  refine RW.seq ?_
  refine RW.region ?_
  refine RL.opd (v := .int .i64 20) 10 rfl rfl rfl (X_move rfl) ?_
  refine RL.opd (v := .int .i64 0) 7 rfl rfl rfl (X_assign rfl) ?_
  refine RL.opd (v := .int .i64 20) 8 rfl rfl rfl (X_assign rfl) ?_
  refine RL.nil ?_
  refine RW.seq ?_
  refine RW.block ?_
  refine RW.loop (fun gk φ wr => (φ 0 = .slice (some ⟨g, 0, none⟩) n cap ∧ φ 1 = .int .i64 (n : Nat) ∧ φ 2 = .func (.func 39) #[] #[pt] ∧ φ 6 = .int .i64 20) ∧ ∃ (X1 Y1 X2 : List Int) (a b : Nat), φ 7 = .int .i64 (a : Nat) ∧ φ 8 = .int .i64 (b : Nat) ∧ xs = X1 ++ X2 ∧ Full f 20 X1 Y1 ∧ X1.length = a ∧ b = a + 20 ∧ gk = n - a ∧ At wr g (.cells (ints (Y1 ++ X2) ++ rest).toArray 3) ∧ Keeps (· = g) w wr) n ?_ ?_
  · exact ⟨⟨rfl, rfl, rfl, rfl⟩, [], [], xs, 0, 20, rfl, rfl, rfl, Full.nil f 20, rfl, rfl, rfl, hat, Keeps.refl _ _⟩
  · rintro gk1 φ wr1 ⟨⟨h_0, h_1, h_2, h_6⟩, X1, Y1, X2, a, b, h_7, h_8, hX, hF, ha, hb, hgk, hat, hK⟩
    obtain ⟨φ0, rfl⟩ : ∃ φ0, φ = upd (upd (upd (upd (upd (upd φ0 0 (.slice (some ⟨g, 0, none⟩) n cap)) 1 (.int .i64 (n : Nat))) 2 (.func (.func 39) #[] #[pt])) 6 (.int .i64 20)) 7 (.int .i64 (a : Nat))) 8 (.int .i64 (b : Nat)) := ⟨φ, by rw [upd_of h_0, upd_of h_1, upd_of h_2, upd_of h_6, upd_of h_7, upd_of h_8]⟩
    clear h_0 h_1 h_2 h_6 h_7 h_8
    have hsz := hK.size
    refine RW.seq ?_
    refine RW.seq ?_
    refine RW.region ?_
    refine RL.opd (v := .int .i64 (b : Nat)) 11 rfl rfl rfl (X_move rfl) ?_
    refine RL.opd (v := .int .i64 (n : Nat)) 12 rfl rfl rfl (X_move rfl) ?_
    refine RL.opd (v := .bool (decide (((b : Nat) : Int) ≤ (n : Nat)))) 13 rfl rfl rfl (X_leq rfl rfl) ?_
    refine RL.nil ?_
    refine RW.cond rfl (fun hlt => ?_) (fun hlt => ?_)
    · -- slot 13: True
      refine RW.skip ?_
      refine RW.block ?_
      refine RW.seq ?_
      have hlt := of_decide_eq_true hlt
      have hXl : X1.length + X2.length = n := by rw [← hl, hX, List.length_append]
      have hFl := hF.len
      have hX2 : X2.Pairwise (· < ·) := (List.pairwise_append.1 (hX ▸ hxs)).2.1
      have e0 : Y1 ++ X2 = Y1 ++ X2.take 20 ++ X2.drop 20 := by rw [List.append_assoc, List.take_append_drop]
      rw [e0] at hat
      have hlr : (Y1 ++ X2.take 20 ++ X2.drop 20).length = n := by rw [← e0, List.length_append]; omega
      refine RW.region ?_
      refine RL.opd (v := .slice (some ⟨g, 0, none⟩) n cap) 14 rfl rfl rfl (X_move rfl) ?_
      refine RL.opd (v := .int .i64 (a : Nat)) 15 rfl rfl rfl (X_move rfl) ?_
      refine RL.opd (v := .int .i64 (b : Nat)) 16 rfl rfl rfl (X_move rfl) ?_
      refine RL.opd (v := .func (.func 39) #[] #[pt]) 17 rfl rfl rfl (X_move rfl) ?_
      refine RL.call rfl (X_callF Try.en96 rfl) ⟨rfl, rfl⟩ (insertion_any g n cap a b pt f S Y1 (X2.take 20) (X2.drop 20) rest wr1 hn hlr (by omega) (by simp; omega) (hX2.sublist (List.take_sublist _ _)) (fun x hx => hS x (hX ▸ List.mem_append_right _ (List.mem_of_mem_take hx))) (hC.keep hK) hat) ?_
      rintro e2 w1 ⟨m', rfl, hm', hat2, hK2⟩
      refine ⟨_, rfl, ?_⟩
      have sz3 := hK2.size
      have KK4 := hK.trans hK2
      refine RL.nil ?_
      refine RW.seq ?_
      refine RW.region ?_
      refine RL.opd (v := .int .i64 (b : Nat)) 19 rfl rfl rfl (X_move rfl) ?_
      refine RL.opd (v := .int .i64 (b : Nat)) 7 rfl rfl rfl (X_assign rfl) ?_
      refine RL.nil ?_
      refine RW.region ?_
      refine RL.opd (v := .int .i64 (b : Nat)) 20 rfl rfl rfl (X_move rfl) ?_
      refine RL.opd (v := .int .i64 20) 21 rfl rfl rfl (X_move rfl) ?_
      refine RL.opd (v := .int .i64 ((b + 20 : Nat) : Int)) 22 rfl rfl rfl (X_add rfl rfl (by omega) (show (b : Int) + 20 = ((b + 20 : Nat) : Int) by omega)) ?_
      refine RL.opd (v := .int .i64 ((b + 20 : Nat) : Int)) 8 rfl rfl rfl (X_assign rfl) ?_
      refine RL.nil ?_
      refine ⟨n - b, by omega, ⟨rfl, rfl, rfl, rfl⟩, ?_⟩
      refine ⟨X1 ++ X2.take 20, Y1 ++ m', X2.drop 20, b, b + 20, rfl, rfl, by rw [List.append_assoc, List.take_append_drop]; exact hX, hF.snoc (by simp; omega) hm', by simp; omega, rfl, rfl, hat2, KK4⟩
    · -- slot 13: False
      refine RW.exit ?_
      refine RW.seq ?_
      have hlt := of_decide_eq_false hlt
      have hXl : X1.length + X2.length = n := by rw [← hl, hX, List.length_append]
      have hFl := hF.len
      have hX2 : X2.Pairwise (· < ·) := (List.pairwise_append.1 (hX ▸ hxs)).2.1
      have e0 : Y1 ++ X2 = Y1 ++ X2 ++ [] := by rw [List.append_nil]
      rw [e0] at hat
      have hlr : (Y1 ++ X2 ++ []).length = n := by rw [← e0, List.length_append]; omega
      refine RW.region ?_
      refine RL.opd (v := .slice (some ⟨g, 0, none⟩) n cap) 23 rfl rfl rfl (X_move rfl) ?_
      refine RL.opd (v := .int .i64 (a : Nat)) 24 rfl rfl rfl (X_move rfl) ?_
      refine RL.opd (v := .int .i64 (n : Nat)) 25 rfl rfl rfl (X_move rfl) ?_
      refine RL.opd (v := .func (.func 39) #[] #[pt]) 26 rfl rfl rfl (X_move rfl) ?_
      refine RL.call rfl (X_callF Try.en96 rfl) ⟨rfl, rfl⟩ (insertion_any g n cap a n pt f S Y1 X2 [] rest wr1 hn hlr (by omega) (by omega) hX2 (fun x hx => hS x (hX ▸ List.mem_append_right _ hx)) (hC.keep hK) hat) ?_
      rintro e6 w5 ⟨m', rfl, hm', hat2, hK2⟩
      refine ⟨_, rfl, ?_⟩
      have sz7 := hK2.size
      have KK8 := hK.trans hK2
      refine RL.nil ?_
      refine RW.block ?_
      refine RW.loop (fun gk φ wr => (φ 0 = .slice (some ⟨g, 0, none⟩) n cap ∧ φ 1 = .int .i64 (n : Nat) ∧ φ 2 = .func (.func 39) #[] #[pt]) ∧ ∃ (ys : List Int) (bs : Nat), φ 6 = .int .i64 (bs : Nat) ∧ Bl f bs xs ys ∧ 0 < bs ∧ gk = n - bs ∧ At wr g (.cells (ints ys ++ rest).toArray 3) ∧ Keeps (· = g) w wr) (n - 20) ?_ ?_
      · exact ⟨⟨rfl, rfl, rfl⟩, Y1 ++ m', 20, rfl, ⟨X1, Y1, X2, m', hF, by omega, hm', hX, rfl⟩, by omega, rfl, (by rw [List.append_nil] at hat2; exact hat2), KK8⟩
      · rintro gk2 φ wr2 ⟨⟨h_0, h_1, h_2⟩, ys, bs, h_6, hB, hbs, hgk, hat, hK⟩
        obtain ⟨φ0, rfl⟩ : ∃ φ0, φ = upd (upd (upd (upd φ0 0 (.slice (some ⟨g, 0, none⟩) n cap)) 1 (.int .i64 (n : Nat))) 2 (.func (.func 39) #[] #[pt])) 6 (.int .i64 (bs : Nat)) := ⟨φ, by rw [upd_of h_0, upd_of h_1, upd_of h_2, upd_of h_6]⟩
        clear h_0 h_1 h_2 h_6
        have hsz := hK.size
        refine RW.seq ?_
        refine RW.seq ?_
        refine RW.region ?_
        refine RL.opd (v := .int .i64 (bs : Nat)) 28 rfl rfl rfl (X_move rfl) ?_
        refine RL.opd (v := .int .i64 (n : Nat)) 29 rfl rfl rfl (X_move rfl) ?_
        refine RL.opd (v := .bool (decide (((bs : Nat) : Int) < (n : Nat)))) 30 rfl rfl rfl (X_lss rfl rfl) ?_
        refine RL.nil ?_
        refine RW.cond rfl (fun hlt2 => ?_) (fun hlt2 => ?_)
        · -- slot 30: True
          refine RW.skip ?_
          refine RW.block ?_
          refine RW.seq ?_
          have hlt2 := of_decide_eq_true hlt2
          refine RW.region ?_
          refine RL.opd (v := .int .i64 (bs : Nat)) 31 rfl rfl rfl (X_move rfl) ?_
          refine RL.opd (v := .int .i64 ((2 * bs : Nat) : Int)) 32 rfl rfl rfl (X_mul rfl rfl (by omega) (show (2 : Int) * (bs : Int) = ((2 * bs : Nat) : Int) by omega)) ?_
          refine RL.opd (v := .int .i64 0) 7 rfl rfl rfl (X_assign rfl) ?_
          refine RL.opd (v := .int .i64 ((2 * bs : Nat) : Int)) 8 rfl rfl rfl (X_assign rfl) ?_
          refine RL.nil ?_
          refine RW.seq ?_
          refine RW.block ?_
          refine RW.loop (fun gk φ wr => (φ 0 = .slice (some ⟨g, 0, none⟩) n cap ∧ φ 1 = .int .i64 (n : Nat) ∧ φ 2 = .func (.func 39) #[] #[pt] ∧ φ 6 = .int .i64 (bs : Nat)) ∧ ∃ (X1 Y1 X2 Y2 : List Int) (a b : Nat), φ 7 = .int .i64 (a : Nat) ∧ φ 8 = .int .i64 (b : Nat) ∧ xs = X1 ++ X2 ∧ Full f (2 * bs) X1 Y1 ∧ Bl f bs X2 Y2 ∧ X1.length = a ∧ b = a + 2 * bs ∧ gk = n - a ∧ At wr g (.cells (ints (Y1 ++ Y2) ++ rest).toArray 3) ∧ Keeps (· = g) w wr) n ?_ ?_
          · exact ⟨⟨rfl, rfl, rfl, rfl⟩, [], [], xs, ys, 0, 2 * bs, rfl, rfl, rfl, Full.nil f _, hB, rfl, by omega, rfl, hat, hK⟩
          · rintro gk3 φ wr3 ⟨⟨h_0, h_1, h_2, h_6⟩, X1, Y1, X2, Y2, a, b, h_7, h_8, hX, hF, hB2, ha, hb, hgk, hat, hK⟩
            obtain ⟨φ0, rfl⟩ : ∃ φ0, φ = upd (upd (upd (upd (upd (upd φ0 0 (.slice (some ⟨g, 0, none⟩) n cap)) 1 (.int .i64 (n : Nat))) 2 (.func (.func 39) #[] #[pt])) 6 (.int .i64 (bs : Nat))) 7 (.int .i64 (a : Nat))) 8 (.int .i64 (b : Nat)) := ⟨φ, by rw [upd_of h_0, upd_of h_1, upd_of h_2, upd_of h_6, upd_of h_7, upd_of h_8]⟩
            clear h_0 h_1 h_2 h_6 h_7 h_8
            have hsz := hK.size
            refine RW.seq ?_
            refine RW.seq ?_
            refine RW.region ?_
            refine RL.opd (v := .int .i64 (b : Nat)) 33 rfl rfl rfl (X_move rfl) ?_
            refine RL.opd (v := .int .i64 (n : Nat)) 34 rfl rfl rfl (X_move rfl) ?_
            refine RL.opd (v := .bool (decide (((b : Nat) : Int) ≤ (n : Nat)))) 35 rfl rfl rfl (X_leq rfl rfl) ?_
            refine RL.nil ?_
            refine RW.cond rfl (fun hlt3 => ?_) (fun hlt3 => ?_)
            · -- slot 35: True
              refine RW.skip ?_
              refine RW.block ?_
              refine RW.seq ?_
              have hlt3 := of_decide_eq_true hlt3
              have hXl : X1.length + X2.length = n := by rw [← hl, hX, List.length_append]
              have hFl := hF.len
              have hX2 : X2.Pairwise (· < ·) := (List.pairwise_append.1 (hX ▸ hxs)).2.1
              obtain ⟨B, B', X3, Y3, hBl, hsB, hB3, hX2e, hY2e⟩ := hB2.first (by omega)
              have hX3l : X3.length + bs = X2.length := by rw [hX2e, List.length_append]; omega
              obtain ⟨C, C', X4, Y4, hCl, hsC, hB4, hX3e, hY3e⟩ := hB3.first (by omega)
              have hT : Two f B' C' := by
                rw [hX2e, hX3e, ← List.append_assoc] at hX2
                exact two_of (List.pairwise_append.1 hX2).1 hsB hsC
              have e0 : Y1 ++ Y2 = Y1 ++ B' ++ C' ++ Y4 := by rw [hY2e, hY3e]; simp only [List.append_assoc]
              rw [e0] at hat
              have hBl' := hsB.len
              have hCl' := hsC.len
              have hX4l : X4.length + bs = X3.length := by rw [hX3e, List.length_append]; omega
              have hY4l := hB4.len
              have hlr : (Y1 ++ B' ++ C' ++ Y4).length = n := by simp only [List.length_append]; omega
              have hSx : ∀ x ∈ B' ++ C', S x := fun x hx => hS x (by
                rw [hX, hX2e, hX3e]
                rcases List.mem_append.1 hx with h | h
                · exact List.mem_append_right _ (List.mem_append_left _ (hsB.2.subset h))
                · exact List.mem_append_right _ (List.mem_append_right _ (List.mem_append_left _ (hsC.2.subset h))))
              refine RW.region ?_
              refine RL.opd (v := .slice (some ⟨g, 0, none⟩) n cap) 36 rfl rfl rfl (X_move rfl) ?_
              refine RL.opd (v := .int .i64 (a : Nat)) 37 rfl rfl rfl (X_move rfl) ?_
              refine RL.opd (v := .int .i64 (a : Nat)) 38 rfl rfl rfl (X_move rfl) ?_
              refine RL.opd (v := .int .i64 (bs : Nat)) 39 rfl rfl rfl (X_move rfl) ?_
              refine RL.opd (v := .int .i64 ((a + bs : Nat) : Int)) 40 rfl rfl rfl (X_add rfl rfl (by omega) (show (a : Int) + (bs : Int) = ((a + bs : Nat) : Int) by omega)) ?_
              refine RL.opd (v := .int .i64 (b : Nat)) 41 rfl rfl rfl (X_move rfl) ?_
              refine RL.opd (v := .func (.func 39) #[] #[pt]) 42 rfl rfl rfl (X_move rfl) ?_
              refine RL.call rfl (X_callF Try.en97 rfl) ⟨rfl, rfl⟩ (sym_any (B'.length + C'.length) g n cap a (a + bs) b pt f S Y1 B' C' Y4 rest wr3 rfl hn hlr (by omega) (by omega) (by omega) (by omega) (by omega) hT hSx (hC.keep hK) hat) ?_
              rintro e10 w9 ⟨t, rfl, hst, hat2, hK2⟩
              refine ⟨_, rfl, ?_⟩
              have sz11 := hK2.size
              have KK12 := hK.trans hK2
              refine RL.nil ?_
              refine RW.seq ?_
              refine RW.region ?_
              refine RL.opd (v := .int .i64 (b : Nat)) 44 rfl rfl rfl (X_move rfl) ?_
              refine RL.opd (v := .int .i64 (b : Nat)) 7 rfl rfl rfl (X_assign rfl) ?_
              refine RL.nil ?_
              refine RW.region ?_
              refine RL.opd (v := .int .i64 (b : Nat)) 45 rfl rfl rfl (X_move rfl) ?_
              refine RL.opd (v := .int .i64 (bs : Nat)) 46 rfl rfl rfl (X_move rfl) ?_
              refine RL.opd (v := .int .i64 ((2 * bs : Nat) : Int)) 47 rfl rfl rfl (X_mul rfl rfl (by omega) (show (2 : Int) * (bs : Int) = ((2 * bs : Nat) : Int) by omega)) ?_
              refine RL.opd (v := .int .i64 ((b + 2 * bs : Nat) : Int)) 48 rfl rfl rfl (X_add rfl rfl (by omega) (show (b : Int) + ((2 * bs : Nat) : Int) = ((b + 2 * bs : Nat) : Int) by omega)) ?_
              refine RL.opd (v := .int .i64 ((b + 2 * bs : Nat) : Int)) 8 rfl rfl rfl (X_assign rfl) ?_
              refine RL.nil ?_
              refine ⟨n - b, by omega, ⟨rfl, rfl, rfl, rfl⟩, ?_⟩
              have hFs := hF.snoc (B := B ++ C) (B' := t) (by simp; omega) (SortOf.app hsB hsC hst)
              exact ⟨X1 ++ (B ++ C), Y1 ++ t, X4, Y4, b, b + 2 * bs, rfl, rfl, by rw [hX, hX2e, hX3e]; simp only [List.append_assoc], hFs, hB4, by simp; omega, rfl, rfl, hat2, KK12⟩
            · -- slot 35: False
              refine RW.exit ?_
              refine RW.seq ?_
              refine RW.seq ?_
              have hlt3 := of_decide_eq_false hlt3
              have hXl : X1.length + X2.length = n := by rw [← hl, hX, List.length_append]
              have hFl := hF.len
              refine RW.region ?_
              refine RL.opd (v := .int .i64 (a : Nat)) 49 rfl rfl rfl (X_move rfl) ?_
              refine RL.opd (v := .int .i64 (bs : Nat)) 50 rfl rfl rfl (X_move rfl) ?_
              refine RL.opd (v := .int .i64 ((a + bs : Nat) : Int)) 51 rfl rfl rfl (X_add rfl rfl (by omega) (show (a : Int) + (bs : Int) = ((a + bs : Nat) : Int) by omega)) ?_
              refine RL.opd (v := .int .i64 ((a + bs : Nat) : Int)) 9 rfl rfl rfl (X_assign rfl) ?_
              refine RL.nil ?_
              refine RW.seq ?_
              refine RW.region ?_
              refine RL.opd (v := .int .i64 ((a + bs : Nat) : Int)) 52 rfl rfl rfl (X_move rfl) ?_
              refine RL.opd (v := .int .i64 (n : Nat)) 53 rfl rfl rfl (X_move rfl) ?_
              refine RL.opd (v := .bool (decide ((((a + bs : Nat) : Int) : Int) < (n : Nat)))) 54 rfl rfl rfl (X_lss rfl rfl) ?_
              refine RL.nil ?_
              refine RW.cond rfl (fun hm => ?_) (fun hm => ?_)
              · -- slot 54: True
                have hm := of_decide_eq_true hm
                have hX2 : X2.Pairwise (· < ·) := (List.pairwise_append.1 (hX ▸ hxs)).2.1
                obtain ⟨B, B', X3, Y3, hBl, hsB, hB3, hX2e, hY2e⟩ := hB2.first (by omega)
                have hX3l : X3.length + bs = X2.length := by rw [hX2e, List.length_append]; omega
                have hsC := hB3.small (by omega)
                have hT : Two f B' Y3 := by
                  rw [hX2e] at hX2
                  exact two_of hX2 hsB hsC
                have e0 : Y1 ++ Y2 = Y1 ++ B' ++ Y3 ++ [] := by rw [hY2e]; simp
                rw [e0] at hat
                have hBl' := hsB.len
                have hCl' := hsC.len
                have hlr : (Y1 ++ B' ++ Y3 ++ []).length = n := by simp only [List.length_append, List.length_nil]; omega
                have hSx : ∀ x ∈ B' ++ Y3, S x := fun x hx => hS x (by
                  rw [hX, hX2e]
                  rcases List.mem_append.1 hx with h | h
                  · exact List.mem_append_right _ (List.mem_append_left _ (hsB.2.subset h))
                  · exact List.mem_append_right _ (List.mem_append_right _ (hsC.2.subset h)))
                refine RW.region ?_
                refine RL.opd (v := .slice (some ⟨g, 0, none⟩) n cap) 55 rfl rfl rfl (X_move rfl) ?_
                refine RL.opd (v := .int .i64 (a : Nat)) 56 rfl rfl rfl (X_move rfl) ?_
                refine RL.opd (v := .int .i64 ((a + bs : Nat) : Int)) 57 rfl rfl rfl (X_move rfl) ?_
                refine RL.opd (v := .int .i64 (n : Nat)) 58 rfl rfl rfl (X_move rfl) ?_
                refine RL.opd (v := .func (.func 39) #[] #[pt]) 59 rfl rfl rfl (X_move rfl) ?_
                refine RL.call rfl (X_callF Try.en97 rfl) ⟨rfl, rfl⟩ (sym_any (B'.length + Y3.length) g n cap a (a + bs) n pt f S Y1 B' Y3 [] rest wr3 rfl hn hlr (by omega) (by omega) (by omega) (by omega) (by omega) hT hSx (hC.keep hK) hat) ?_
                rintro e14 w13 ⟨t, rfl, hst, hat2, hK2⟩
                refine ⟨_, rfl, ?_⟩
                have sz15 := hK2.size
                have KK16 := hK.trans hK2
                refine RL.nil ?_
                refine RW.region ?_
                refine RL.opd (v := .int .i64 (bs : Nat)) 61 rfl rfl rfl (X_move rfl) ?_
                refine RL.opd (v := .int .i64 ((2 * bs : Nat) : Int)) 62 rfl rfl rfl (X_mul rfl rfl (by omega) (show (bs : Int) * 2 = ((2 * bs : Nat) : Int) by omega)) ?_
                refine RL.opd (v := .int .i64 ((2 * bs : Nat) : Int)) 6 rfl rfl rfl (X_assign rfl) ?_
                refine RL.nil ?_
                refine ⟨n - 2 * bs, by omega, ⟨rfl, rfl, rfl⟩, ?_⟩
                exact ⟨Y1 ++ t, 2 * bs, rfl, ⟨X1, Y1, X2, t, hF, by omega, (hX2e ▸ SortOf.app hsB hsC hst), hX, rfl⟩, by omega, rfl, (by rw [List.append_nil] at hat2; exact hat2), KK16⟩
              · -- slot 54: False
                refine RW.skip ?_
                refine RW.region ?_
                refine RL.opd (v := .int .i64 (bs : Nat)) 61 rfl rfl rfl (X_move rfl) ?_
                refine RL.opd (v := .int .i64 ((2 * bs : Nat) : Int)) 62 rfl rfl rfl (X_mul rfl rfl (by omega) (show (bs : Int) * 2 = ((2 * bs : Nat) : Int) by omega)) ?_
                refine RL.opd (v := .int .i64 ((2 * bs : Nat) : Int)) 6 rfl rfl rfl (X_assign rfl) ?_
                refine RL.nil ?_
                refine ⟨n - 2 * bs, by omega, ⟨rfl, rfl, rfl⟩, ?_⟩
                exact ⟨Y1 ++ Y2, 2 * bs, rfl, ⟨X1, Y1, X2, Y2, hF, by omega, hB2.all (by have := of_decide_eq_false hm; omega), hX, rfl⟩, by omega, rfl, hat, hK⟩
        · -- slot 30: False
          refine RW.exit ?_
          have hlt2 := of_decide_eq_false hlt2
          exact ret0 (.inr rfl) rfl ⟨ys, rfl, hB.all (by omega), hat, hK⟩

set_option maxRecDepth 10000 in
theorem sortStable_any (g n cap : Nat) (pt : Value) (f : Int → Int) (S : Int → Prop) (xs : List Int) (rest : List Value) (w : World) (hn : n ≤ 1000000) (hl : xs.length = n) (hxs : xs.Pairwise (· < ·)) (hS : ∀ x ∈ xs, S x) (hC : CmpOk Try.prog 39 pt g f S w) (hat : At w g (.cells (ints xs ++ rest).toArray 3)) :
    Calls Try.prog 38 #[.slice (some ⟨g, 0, none⟩) n cap, .func (.func 39) #[] #[pt]] w fun e w' => ∃ ys, e = .returned (.tuple #[]) ∧ SortOf f xs ys ∧ At w' g (.cells (ints ys ++ rest).toArray 3) ∧ Keeps (· = g) w w' := by
  refine calls_of_RW Try.func38 rfl (Nat.le_of_ble_eq_true rfl) ?_
  refine RW.region ?_
  refine RL.opd (v := .slice (some ⟨g, 0, none⟩) n cap) 4 rfl rfl rfl (X_move rfl) ?_
  refine RL.opd (v := .slice (some ⟨g, 0, none⟩) n cap) 5 rfl rfl rfl (X_move rfl) ?_
  refine RL.opd (v := .int .i64 (n : Nat)) 6 rfl rfl rfl (X_len Try.underlying27 rfl) ?_
  refine RL.opd (v := .func (.func 39) #[] #[pt]) 7 rfl rfl rfl (X_move rfl) ?_
  refine RL.call rfl (X_callF Try.en69 rfl) ⟨rfl, rfl⟩ (stable_any g n cap pt f S xs rest w hn hl hxs hS hC hat) ?_
  rintro e2 w1 ⟨ys, rfl, hso, hat2, hK2⟩
  refine ⟨_, rfl, ?_⟩
  have sz3 := hK2.size
  refine RL.nil ?_
  exact ret0 (.inr rfl) rfl ⟨ys, rfl, hso, hat2, hK2⟩

end Go.Proofs
