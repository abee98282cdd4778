/- Rows alike; the law's bounds. -/
import Derived.Test.YtjahbhpcaenllaaHwTypes
import Derived.Test.YtjahbhpcaenllaaHwReplayLaw
namespace Hw.Sym
end Hw.Sym
namespace Go.Proofs
open Go.RowKit Go.Hw Hw.Sym
set_option maxRecDepth 10000 in
theorem equal_any (A B : Option Addr) (c d : Nat) (xs ys : List Int) (w : World) (hn : xs.length ≤ 1000000) (hX : Row w A (ints xs)) (hY : Row w B (ints ys)) :
    Calls Try.prog 9 #[.slice A xs.length c, .slice B ys.length d] w fun e w' => ∃ b, e = .returned (.bool b) ∧ (b = true ↔ xs = ys) ∧ Keeps none_ w w' := by
  refine calls_of_RW Try.func9 rfl (Nat.le_of_ble_eq_true rfl) ?_
  refine RW.seq ?_
  refine RW.region ?_
  refine RL.opd (v := .bool false) 4 rfl rfl rfl (X_assign rfl) ?_
  refine RL.nil ?_
  refine RW.seq ?_
  refine RW.seq ?_
  refine RW.region ?_
  refine RL.opd (v := .slice A xs.length c) 6 rfl rfl rfl (X_move rfl) ?_
  refine RL.opd (v := .int .i64 (xs.length : Nat)) 7 rfl rfl rfl (X_len Try.underlying27 rfl) ?_
  refine RL.opd (v := .slice B ys.length d) 8 rfl rfl rfl (X_move rfl) ?_
  refine RL.opd (v := .int .i64 (ys.length : Nat)) 9 rfl rfl rfl (X_len Try.underlying27 rfl) ?_
  refine RL.opd (v := .bool (!decide (((xs.length : Nat) : Int) = (ys.length : Nat)))) 10 rfl rfl rfl (X_neq rfl rfl) ?_
  refine RL.nil ?_
  refine RW.cond rfl (fun hc => ?_) (fun hc => ?_)
  · -- slot 10: True
    refine RW.seq ?_
    refine RW.region ?_
    refine RL.opd (v := .bool false) 4 rfl rfl rfl (X_assign rfl) ?_
    refine RL.nil ?_
    refine RW.ret ?_
    refine ret1 (.inl rfl) rfl ?_
    refine ⟨false, rfl, ⟨fun h => Bool.noConfusion h, fun h => ?_⟩, Keeps.refl _ _⟩
    subst h
    simp at hc
  · -- slot 10: False
    refine RW.skip ?_
    refine RW.seq ?_
    refine RW.seq ?_
    have hl : xs.length = ys.length := by simp at hc; omega
    clear hc
    refine RW.region ?_
    refine RL.opd (v := .slice A xs.length c) 11 rfl rfl rfl (X_move rfl) ?_
    refine RL.opd (v := .int .i64 (xs.length : Nat)) 12 rfl rfl rfl (X_len Try.underlying27 rfl) ?_
    refine RL.opd (v := .int .i64 0) 13 rfl rfl rfl (X_move rfl) ?_
    refine RL.nil ?_
    refine RW.block ?_
    refine RW.loop (fun gk φ wr => (φ 0 = .slice A xs.length c ∧ φ 1 = .slice B ys.length d ∧ φ 12 = .int .i64 (xs.length : Nat)) ∧ ∃ (k : Nat), φ 13 = .int .i64 (k : Nat) ∧ k ≤ xs.length ∧ gk + k = xs.length ∧ (∀ i, i < k → ∀ (h1 : i < xs.length) (h2 : i < ys.length), xs[i] = ys[i]) ∧ Keeps none_ w wr) xs.length ?_ ?_
    · exact ⟨⟨rfl, rfl, rfl⟩, 0, rfl, Nat.zero_le _, rfl, (fun i h => absurd h (by omega)), Keeps.refl _ _⟩
    · rintro gk1 φ wr1 ⟨⟨h_0, h_1, h_12⟩, k, h_13, hk, hgk, heq, hK⟩
      obtain ⟨φ0, rfl⟩ : ∃ φ0, φ = upd (upd (upd (upd φ0 0 (.slice A xs.length c)) 1 (.slice B ys.length d)) 12 (.int .i64 (xs.length : Nat))) 13 (.int .i64 (k : Nat)) := ⟨φ, by rw [upd_of h_0, upd_of h_1, upd_of h_12, upd_of h_13]⟩
      clear h_0 h_1 h_12 h_13
      have hsz := hK.size
      refine RW.seq ?_
      refine RW.region ?_
      refine RL.opd (v := .bool (decide (((k : Nat) : Int) < (xs.length : Nat)))) 14 rfl rfl rfl (X_lss rfl rfl) ?_
      refine RL.nil ?_
      refine RW.seq ?_
      refine RW.cond rfl (fun hlt => ?_) (fun hlt => ?_)
      · -- slot 14: True
        refine RW.skip ?_
        refine RW.seq ?_
        refine RW.block ?_
        refine RW.seq ?_
        refine RW.region ?_
        refine RL.opd (v := .int .i64 (k : Nat)) 15 rfl rfl rfl (X_move rfl) ?_
        refine RL.opd (v := .int .i64 (k : Nat)) 5 rfl rfl rfl (X_assign rfl) ?_
        refine RL.nil ?_
        refine RW.seq ?_
        have hlt := of_decide_eq_true hlt
        have hlt : k < xs.length := by omega
        have hlt2 : k < ys.length := by omega
        obtain ⟨b, o, rfl, hxc⟩ := hX.elem1 hlt
        obtain ⟨b2, o2, rfl, hyc⟩ := hY.elem1 hlt2
        have hx := hxc k hlt
        have hy := hyc k hlt2
        clear hxc hyc
        refine RW.drawK Try.mixed (fun w1 hw2 hcl hS => ?_)
        have K3 : Keeps none_ wr1 w1 := by rw [hw2]; exact Keeps.drew _ _
        clear hw2
        have sz4 := K3.size
        have KK5 := hK.trans K3
        refine RD.takesK (by kernel_rfl) [0, 1, 2, 3, 4, 5, 6, 7, 8] 0 rfl (by kernel_rfl) hcl hS ?_
        refine RQ.opd 16 rfl rfl rfl (Yld.plain (v := .slice (some ⟨b, o, none⟩) xs.length c) rfl (fun _ _ => (X_move rfl))) ?_
        refine RQ.opd 17 rfl rfl rfl (Yld.plain (v := .int .i64 (k : Nat)) rfl (fun _ _ => (X_move rfl))) ?_
        refine RQ.opd 18 rfl rfl rfl (Yld.plain (v := .pointer (some ⟨b, o + (k) * 1, none⟩)) rfl (fun _ _ => (X_indexAddr Try.underlying27 Try.inf3 rfl rfl (by omega)))) ?_
        refine RQ.opd 19 rfl rfl rfl (Yld.K (v := .int .i64 xs[k]) rfl (fun _ hk => (X_load Try.underlying3 rfl rfl (hk.cell (KK5.cell hx (fun h => h)) (fun h => h))))) ?_
        refine RQ.opd 20 rfl rfl rfl (Yld.plain (v := .slice (some ⟨b2, o2, none⟩) ys.length d) rfl (fun _ _ => (X_move rfl))) ?_
        refine RQ.opd 21 rfl rfl rfl (Yld.plain (v := .int .i64 (k : Nat)) rfl (fun _ _ => (X_move rfl))) ?_
        refine RQ.opd 22 rfl rfl rfl (Yld.plain (v := .pointer (some ⟨b2, o2 + (k) * 1, none⟩)) rfl (fun _ _ => (X_indexAddr Try.underlying27 Try.inf3 rfl rfl (by omega)))) ?_
        refine RQ.opd 23 rfl rfl rfl (Yld.K (v := .int .i64 ys[k]) rfl (fun _ hk => (X_load Try.underlying3 rfl rfl (hk.cell (KK5.cell hy (fun h => h)) (fun h => h))))) ?_
        refine RQ.opd 24 rfl rfl rfl (Yld.plain (v := .bool (!decide ((xs[k] : Int) = ys[k]))) rfl (fun _ _ => (X_neq rfl rfl))) ?_
        refine RQ.nil ?_
        clear hcl hS
        intro hcl hS
        refine RD.done (by kernel_rfl) hcl hS ?_
        refine RW.cond rfl (fun hd => ?_) (fun hd => ?_)
        · -- slot 24: True
          refine RW.seq ?_
          refine RW.region ?_
          refine RL.opd (v := .bool false) 4 rfl rfl rfl (X_assign rfl) ?_
          refine RL.nil ?_
          refine RW.ret ?_
          refine ret1 (.inl rfl) rfl ?_
          refine ⟨false, rfl, ⟨fun h => Bool.noConfusion h, fun h => ?_⟩, KK5⟩
          subst h
          simp at hd
        · -- slot 24: False
          refine RW.skip ?_
          refine RW.region ?_
          refine RL.opd (v := .int .i64 (((k : Nat) : Int) + 1)) 25 rfl rfl rfl (X_add rfl rfl (by omega) rfl) ?_
          refine RL.opd (v := .int .i64 (((k : Nat) : Int) + 1)) 13 rfl rfl rfl (X_move rfl) ?_
          refine RL.nil ?_
          refine ⟨gk1 - 1, by omega, ⟨rfl, rfl, rfl⟩, ?_⟩
          refine ⟨k + 1, rfl, by omega, by omega, fun i hi h1 h2 => ?_, KK5⟩
          by_cases e : i = k
          · subst e; simpa using hd
          · exact heq i (by omega) h1 h2
      · -- slot 14: False
        refine RW.exit ?_
        refine RW.seq ?_
        refine RW.region ?_
        refine RL.opd (v := .bool true) 4 rfl rfl rfl (X_assign rfl) ?_
        refine RL.nil ?_
        refine RW.ret ?_
        refine ret1 (.inl rfl) rfl ?_
        refine ⟨true, rfl, ⟨fun _ => ?_, fun _ => rfl⟩, hK⟩
        have hlt := of_decide_eq_false hlt
        exact List.ext_getElem hl fun i h1 h2 => heq i (by omega) h1 h2

set_option maxRecDepth 10000 in
theorem few_any (A A2 : Option Addr) (cap c2 : Nat) (used : Int) (l : List Trip) (ls : List (List Leg)) (hs : List Value) (w : World) (hT : Row w A (l.flatMap Trip.enc)) (hls : LegsAt w A2 ls hs)
    (hn : l.length ≤ 9223372036854775807) (hn2 : ls.length ≤ 9223372036854775807) :
    Calls Try.prog 7 #[.agg #[.slice A l.length cap, .slice A2 ls.length c2, .int .i64 used]] w fun e w' => ∃ b, e = .returned (.bool b) ∧ (b = true → FewOk l ls) ∧ Keeps none_ w w' := by
  refine calls_of_RW Try.func7 rfl (Nat.le_of_ble_eq_true rfl) ?_
  refine RW.seq ?_
  refine RW.region ?_
  refine RL.box (v := .agg #[.slice A l.length cap, .slice A2 ls.length c2, .int .i64 used]) rfl rfl rfl ⟨rfl, rfl⟩ (fun B1 w2 ge5 hB4 K3 => ?_)
  have gb_B1 : w.heap.size ≤ B1 := ge5
  have sz6 := K3.size
  refine RL.opd (v := .bool false) 2 rfl rfl rfl (X_assign rfl) ?_
  refine RL.nil ?_
  refine RW.seq ?_
  refine RW.seq ?_
  refine RW.region ?_
  refine RL.opd (v := .pointer (some ⟨B1, 0, none⟩)) 8 rfl rfl rfl (X_fieldAddr Try.underlying25 rfl Try.inf22 rfl rfl) ?_
  refine RL.opd (v := .slice A l.length cap) 9 rfl rfl rfl (X_load Try.underlying22 rfl rfl (hB4.cell _)) ?_
  refine RL.opd (v := .int .i64 (l.length : Nat)) 10 rfl rfl rfl (X_len Try.underlying22 rfl) ?_
  refine RL.opd (v := .bool (decide ((60 : Int) < (l.length : Nat)))) 11 rfl rfl rfl (X_gtr rfl rfl) ?_
  refine RL.opd (v := .bool (decide ((60 : Int) < (l.length : Nat)))) 12 rfl rfl rfl (X_move rfl) ?_
  refine RL.gopd (v := .pointer (some ⟨B1, 1, none⟩)) 13 rfl rfl rfl rfl (fun hg => (X_fieldAddr Try.underlying25 rfl Try.inf23 rfl rfl)) rfl rfl ?_
  refine RL.gopd (v := .slice A2 ls.length c2) 14 rfl rfl rfl rfl (fun hg => (X_load Try.underlying23 rfl (gb_on hg) (hB4.cell _))) rfl rfl ?_
  refine RL.gopd (v := .int .i64 (ls.length : Nat)) 15 rfl rfl rfl rfl (fun hg => (X_len Try.underlying23 (gb_on hg))) rfl rfl ?_
  refine RL.gopd (v := .bool (decide ((16 : Int) < (ls.length : Nat)))) 16 rfl rfl rfl rfl (fun hg => (X_gtr (gb_on hg) rfl)) rfl rfl ?_
  refine RL.opd (v := .bool (bif (decide ((60 : Int) < (l.length : Nat))) then true else (decide ((16 : Int) < (ls.length : Nat))))) 17 rfl rfl rfl (X_pickB rfl (fun _ => rfl) (fun h => gbF h)) ?_
  refine RL.nil ?_
  refine RW.cond rfl (fun hln => ?_) (fun hln => ?_)
  · -- slot 17: True
    refine RW.seq ?_
    refine RW.region ?_
    refine RL.opd (v := .bool false) 2 rfl rfl rfl (X_assign rfl) ?_
    refine RL.nil ?_
    refine RW.ret ?_
    exact ret1 (.inl rfl) rfl ⟨false, rfl, fun h => Bool.noConfusion h, K3⟩
  · -- slot 17: False
    refine RW.skip ?_
    refine RW.seq ?_
    refine RW.seq ?_
    simp only [Bool.cond_true_left, Bool.or_eq_false_iff, decide_eq_false_iff_not] at hln
    obtain ⟨hln1, hln2⟩ := hln
    refine RW.region ?_
    refine RL.opd (v := .int .i64 0) 3 rfl rfl rfl (X_assign rfl) ?_
    refine RL.nil ?_
    refine RW.block ?_
    refine RW.loop (fun gk φ wr => (φ 1 = .pointer (some ⟨B1, 0, none⟩)) ∧ ∃ (k : Nat), φ 3 = .int .i64 (k : Nat) ∧ k ≤ l.length ∧ gk + k = l.length ∧ (∀ i, i < k → ∀ h : i < l.length, TripOk i l[i]) ∧ At wr B1 (.cells #[.slice A l.length cap, .slice A2 ls.length c2, .int .i64 used] 25) ∧ Keeps none_ w wr) l.length ?_ ?_
    · exact ⟨rfl, 0, rfl, Nat.zero_le _, rfl, (fun i h => absurd h (by omega)), hB4, K3⟩
    · rintro gk1 φ wr1 ⟨h_1, k, h_3, hk, hgk, htr, hat, hK⟩
      obtain ⟨φ0, rfl⟩ : ∃ φ0, φ = upd (upd φ0 1 (.pointer (some ⟨B1, 0, none⟩))) 3 (.int .i64 (k : Nat)) := ⟨φ, by rw [upd_of h_1, upd_of h_3]⟩
      clear h_1 h_3
      have hsz := hK.size
      refine RW.seq ?_
      refine RW.seq ?_
      refine RW.region ?_
      refine RL.opd (v := .int .i64 (k : Nat)) 18 rfl rfl rfl (X_move rfl) ?_
      refine RL.opd (v := .pointer (some ⟨B1, 0, none⟩)) 19 rfl rfl rfl (X_fieldAddr Try.underlying25 rfl Try.inf22 rfl rfl) ?_
      refine RL.opd (v := .slice A l.length cap) 20 rfl rfl rfl (X_load Try.underlying22 rfl rfl (hat.cell _)) ?_
      refine RL.opd (v := .int .i64 (l.length : Nat)) 21 rfl rfl rfl (X_len Try.underlying22 rfl) ?_
      refine RL.opd (v := .bool (decide (((k : Nat) : Int) < (l.length : Nat)))) 22 rfl rfl rfl (X_lss rfl rfl) ?_
      refine RL.nil ?_
      refine RW.cond rfl (fun hlt => ?_) (fun hlt => ?_)
      · -- slot 22: True
        refine RW.skip ?_
        refine RW.seq ?_
        refine RW.block ?_
        refine RW.seq ?_
        have hlt := of_decide_eq_true hlt
        have hlt : k < l.length := by omega
        obtain ⟨b, o, rfl, hc⟩ := hT.elem 6 (fun _ => rfl) hlt
        have hck := hc k hlt
        clear hc
        refine RW.region ?_
        refine RL.opd (v := .pointer (some ⟨B1, 0, none⟩)) 25 rfl rfl rfl (X_fieldAddr Try.underlying25 rfl Try.inf22 rfl rfl) ?_
        refine RL.opd (v := .slice (some ⟨b, o, none⟩) l.length cap) 26 rfl rfl rfl (X_load Try.underlying22 rfl rfl (hat.cell _)) ?_
        refine RL.opd (v := .int .i64 (k : Nat)) 27 rfl rfl rfl (X_move rfl) ?_
        refine RL.opd (v := .pointer (some ⟨b, o + (k) * 7, none⟩)) 28 rfl rfl rfl (X_indexAddr Try.underlying22 Try.inf29 rfl rfl (by omega)) ?_
        refine RL.opd (v := .agg #[.int .i64 l[k].id, .int .i64 l[k].arrive, .int .i64 l[k].frm, .int .i64 l[k].to, .int .i64 l[k].car, .int .i64 l[k].board, .int .i64 l[k].alight]) 29 rfl rfl rfl (X_loadAgg (l[k].enc) Try.underlying29 rfl Try.inf29 rfl (fun j u hu => (hK.cell (hck j u hu) (fun h => h)))) ?_
        refine RL.alloc rfl rfl Try.inf29 ⟨rfl, rfl⟩ (fun B7 w8 ge11 hB10 K9 => ?_)
        have gb_B7 : w.heap.size ≤ B7 := Nat.le_trans hK.size ge11
        have ne12 : B1 ≠ B7 := by have := hat.lt; omega
        have sz13 := K9.size
        replace hat := K9.at_ hat (fun h => h)
        have KK14 := hK.trans K9
        refine RL.storeAt (v := .agg #[.int .i64 l[k].id, .int .i64 l[k].arrive, .int .i64 l[k].frm, .int .i64 l[k].to, .int .i64 l[k].car, .int .i64 l[k].board, .int .i64 l[k].alight]) rfl rfl rfl Try.inf29 rfl rfl rfl rfl hB10 (Nat.le_of_ble_eq_true rfl) (fun w15 hB17 K16 => ?_)
        try (rw [splice_all rfl] at hB17)
        replace hat := K16.at_ hat (by intro h; exact absurd h (by omega))
        have KK18 := KK14.trans_new K16 (fun i hi h => absurd h (by omega))
        refine RL.nil ?_
        refine RW.seq ?_
        refine RW.region ?_
        refine RL.opd (v := .pointer (some ⟨B7, 0, none⟩)) 30 rfl rfl rfl (X_fieldAddr Try.underlying29 rfl Try.inf3 rfl rfl) ?_
        refine RL.opd (v := .int .i64 l[k].id) 31 rfl rfl rfl (X_load Try.underlying3 rfl rfl (hB17.cell _)) ?_
        refine RL.opd (v := .int .i64 (k : Nat)) 32 rfl rfl rfl (X_move rfl) ?_
        refine RL.opd (v := .bool (!decide ((l[k].id : Int) = (k : Nat)))) 33 rfl rfl rfl (X_neq rfl rfl) ?_
        refine RL.opd (v := .bool (!decide ((l[k].id : Int) = (k : Nat)))) 34 rfl rfl rfl (X_move rfl) ?_
        refine RL.gopd (v := .pointer (some ⟨B7, 1, none⟩)) 35 rfl rfl rfl rfl (fun hg => (X_fieldAddr Try.underlying29 rfl Try.inf3 rfl rfl)) rfl rfl ?_
        refine RL.gopd (v := .int .i64 l[k].arrive) 36 rfl rfl rfl rfl (fun hg => (X_load Try.underlying3 rfl (gb_on hg) (hB17.cell _))) rfl rfl ?_
        refine RL.gopd (v := .pointer (some ⟨B7, 5, none⟩)) 37 rfl rfl rfl rfl (fun hg => (X_fieldAddr Try.underlying29 rfl Try.inf3 rfl rfl)) rfl rfl ?_
        refine RL.gopd (v := .int .i64 l[k].board) 38 rfl rfl rfl rfl (fun hg => (X_load Try.underlying3 rfl (gb_on hg) (hB17.cell _))) rfl rfl ?_
        refine RL.gopd (v := .pointer (some ⟨B7, 6, none⟩)) 39 rfl rfl rfl rfl (fun hg => (X_fieldAddr Try.underlying29 rfl Try.inf3 rfl rfl)) rfl rfl ?_
        refine RL.gopd (v := .int .i64 l[k].alight) 40 rfl rfl rfl rfl (fun hg => (X_load Try.underlying3 rfl (gb_on hg) (hB17.cell _))) rfl rfl ?_
        refine RL.gopd (v := .int .i64 (mn (mn (l[k].arrive) (l[k].board)) (l[k].alight))) 41 rfl rfl rfl rfl (fun hg => (X_min3 (gb_on hg) (gb_on hg) (gb_on hg))) rfl rfl ?_
        refine RL.gopd (v := .bool (decide (((mn (mn (l[k].arrive) (l[k].board)) (l[k].alight)) : Int) < (-1073741824)))) 42 rfl rfl rfl rfl (fun hg => (X_lss (gb_on hg) rfl)) rfl rfl ?_
        refine RL.opd (v := .bool (bif (!decide ((l[k].id : Int) = (k : Nat))) then true else (decide (((mn (mn (l[k].arrive) (l[k].board)) (l[k].alight)) : Int) < (-1073741824))))) 43 rfl rfl rfl (X_pickB rfl (fun _ => rfl) (fun h => gbF h)) ?_
        refine RL.opd (v := .bool (bif (!decide ((l[k].id : Int) = (k : Nat))) then true else (decide (((mn (mn (l[k].arrive) (l[k].board)) (l[k].alight)) : Int) < (-1073741824))))) 44 rfl rfl rfl (X_move rfl) ?_
        refine RL.gopd (v := .pointer (some ⟨B7, 1, none⟩)) 45 rfl rfl rfl rfl (fun hg => (X_fieldAddr Try.underlying29 rfl Try.inf3 rfl rfl)) rfl rfl ?_
        refine RL.gopd (v := .int .i64 l[k].arrive) 46 rfl rfl rfl rfl (fun hg => (X_load Try.underlying3 rfl (gb_on hg) (hB17.cell _))) rfl rfl ?_
        refine RL.gopd (v := .pointer (some ⟨B7, 5, none⟩)) 47 rfl rfl rfl rfl (fun hg => (X_fieldAddr Try.underlying29 rfl Try.inf3 rfl rfl)) rfl rfl ?_
        refine RL.gopd (v := .int .i64 l[k].board) 48 rfl rfl rfl rfl (fun hg => (X_load Try.underlying3 rfl (gb_on hg) (hB17.cell _))) rfl rfl ?_
        refine RL.gopd (v := .pointer (some ⟨B7, 6, none⟩)) 49 rfl rfl rfl rfl (fun hg => (X_fieldAddr Try.underlying29 rfl Try.inf3 rfl rfl)) rfl rfl ?_
        refine RL.gopd (v := .int .i64 l[k].alight) 50 rfl rfl rfl rfl (fun hg => (X_load Try.underlying3 rfl (gb_on hg) (hB17.cell _))) rfl rfl ?_
        refine RL.gopd (v := .int .i64 (mx (mx (l[k].arrive) (l[k].board)) (l[k].alight))) 51 rfl rfl rfl rfl (fun hg => (X_max3 (gb_on hg) (gb_on hg) (gb_on hg))) rfl rfl ?_
        refine RL.gopd (v := .bool (decide ((1073741824 : Int) < (mx (mx (l[k].arrive) (l[k].board)) (l[k].alight))))) 52 rfl rfl rfl rfl (fun hg => (X_gtr (gb_on hg) rfl)) rfl rfl ?_
        refine RL.opd (v := .bool (bif (bif (!decide ((l[k].id : Int) = (k : Nat))) then true else (decide (((mn (mn (l[k].arrive) (l[k].board)) (l[k].alight)) : Int) < (-1073741824)))) then true else (decide ((1073741824 : Int) < (mx (mx (l[k].arrive) (l[k].board)) (l[k].alight)))))) 53 rfl rfl rfl (X_pickB rfl (fun _ => rfl) (fun h => gbF h)) ?_
        refine RL.nil ?_
        refine RW.cond rfl (fun hcc => ?_) (fun hcc => ?_)
        · -- slot 53: True
          refine RW.seq ?_
          refine RW.region ?_
          refine RL.opd (v := .bool false) 2 rfl rfl rfl (X_assign rfl) ?_
          refine RL.nil ?_
          refine RW.ret ?_
          exact ret1 (.inl rfl) rfl ⟨false, rfl, fun h => Bool.noConfusion h, KK18⟩
        · -- slot 53: False
          refine RW.skip ?_
          refine RW.region ?_
          refine RL.opd (v := .int .i64 (k : Nat)) 23 rfl rfl rfl (X_move rfl) ?_
          refine RL.opd (v := .int .i64 (((k : Nat) : Int) + 1)) 24 rfl rfl rfl (X_add rfl rfl (by omega) rfl) ?_
          refine RL.opd (v := .int .i64 (((k : Nat) : Int) + 1)) 3 rfl rfl rfl (X_assign rfl) ?_
          refine RL.nil ?_
          refine ⟨gk1 - 1, by omega, rfl, ?_⟩
          refine ⟨k + 1, rfl, by omega, by omega, fun i hi h => ?_, hat, KK18⟩
          by_cases e : i = k
          · subst e
            obtain ⟨hcc, h3⟩ := or_f hcc
            obtain ⟨h1, h2⟩ := or_f hcc
            exact ⟨by simpa using h1, mn3 h2, mx3 h3⟩
          · exact htr i (by omega) h
      · -- slot 22: False
        refine RW.exit ?_
        refine RW.seq ?_
        refine RW.seq ?_
        refine RW.region ?_
        refine RL.opd (v := .int .i64 0) 5 rfl rfl rfl (X_assign rfl) ?_
        refine RL.nil ?_
        refine RW.block ?_
        refine RW.loop (fun gk φ wr => (φ 1 = .pointer (some ⟨B1, 0, none⟩)) ∧ ∃ (m : Nat), φ 5 = .int .i64 (m : Nat) ∧ m ≤ ls.length ∧ gk + m = ls.length ∧ (∀ i, i < m → ∀ h : i < ls.length, LegsOk ls[i]) ∧ At wr B1 (.cells #[.slice A l.length cap, .slice A2 ls.length c2, .int .i64 used] 25) ∧ Keeps none_ w wr) ls.length ?_ ?_
        · exact ⟨rfl, 0, rfl, Nat.zero_le _, rfl, (fun i h => absurd h (by omega)), hat, hK⟩
        · rintro gk2 φ wr2 ⟨h_1, m, h_5, hm, hgm, hlg, hat, hK⟩
          obtain ⟨φ0, rfl⟩ : ∃ φ0, φ = upd (upd φ0 1 (.pointer (some ⟨B1, 0, none⟩))) 5 (.int .i64 (m : Nat)) := ⟨φ, by rw [upd_of h_1, upd_of h_5]⟩
          clear h_1 h_5
          have hsz := hK.size
          refine RW.seq ?_
          refine RW.seq ?_
          refine RW.region ?_
          refine RL.opd (v := .int .i64 (m : Nat)) 54 rfl rfl rfl (X_move rfl) ?_
          refine RL.opd (v := .pointer (some ⟨B1, 1, none⟩)) 55 rfl rfl rfl (X_fieldAddr Try.underlying25 rfl Try.inf23 rfl rfl) ?_
          refine RL.opd (v := .slice A2 ls.length c2) 56 rfl rfl rfl (X_load Try.underlying23 rfl rfl (hat.cell _)) ?_
          refine RL.opd (v := .int .i64 (ls.length : Nat)) 57 rfl rfl rfl (X_len Try.underlying23 rfl) ?_
          refine RL.opd (v := .bool (decide (((m : Nat) : Int) < (ls.length : Nat)))) 58 rfl rfl rfl (X_lss rfl rfl) ?_
          refine RL.nil ?_
          refine RW.cond rfl (fun hlt2 => ?_) (fun hlt2 => ?_)
          · -- slot 58: True
            refine RW.skip ?_
            refine RW.seq ?_
            refine RW.block ?_
            refine RW.seq ?_
            refine RW.region ?_
            refine RL.opd (v := .int .i64 0) 6 rfl rfl rfl (X_assign rfl) ?_
            refine RL.nil ?_
            refine RW.block ?_
            have hlt2 := of_decide_eq_true hlt2
            have hlt2 : m < ls.length := by omega
            obtain ⟨b, o, C, c, rfl, hcm, hrow⟩ := hls.get hlt2
            refine RW.loop (fun gk φ wr => (φ 1 = .pointer (some ⟨B1, 0, none⟩) ∧ φ 5 = .int .i64 (m : Nat)) ∧ ∃ (q : Nat), φ 6 = .int .i64 (q : Nat) ∧ q ≤ ls[m].length ∧ q ≤ 61 ∧ gk + q = ls[m].length ∧ (∀ i, i < q → 0 < i → ∀ (h : i < ls[m].length), ls[m][i-1].tick < ls[m][i].tick) ∧ (∀ i, i < q → ∀ (h : i < ls[m].length), LegOk ls[m][i]) ∧ At wr B1 (.cells #[.slice A l.length cap, .slice (some ⟨b, o, none⟩) ls.length c2, .int .i64 used] 25) ∧ Keeps none_ w wr) ls[m].length ?_ ?_
            · exact ⟨⟨rfl, rfl⟩, 0, rfl, Nat.zero_le _, by omega, rfl, (fun i h => absurd h (by omega)), (fun i h => absurd h (by omega)), hat, hK⟩
            · rintro gk3 φ wr3 ⟨⟨h_1, h_5⟩, q, h_6, hq, hq61, hgq, hri, hok, hat, hK⟩
              obtain ⟨φ0, rfl⟩ : ∃ φ0, φ = upd (upd (upd φ0 1 (.pointer (some ⟨B1, 0, none⟩))) 5 (.int .i64 (m : Nat))) 6 (.int .i64 (q : Nat)) := ⟨φ, by rw [upd_of h_1, upd_of h_5, upd_of h_6]⟩
              clear h_1 h_5 h_6
              have hsz := hK.size
              refine RW.seq ?_
              refine RW.seq ?_
              refine RW.region ?_
              refine RL.opd (v := .int .i64 (q : Nat)) 61 rfl rfl rfl (X_move rfl) ?_
              refine RL.opd (v := .pointer (some ⟨B1, 1, none⟩)) 62 rfl rfl rfl (X_fieldAddr Try.underlying25 rfl Try.inf23 rfl rfl) ?_
              refine RL.opd (v := .slice (some ⟨b, o, none⟩) ls.length c2) 63 rfl rfl rfl (X_load Try.underlying23 rfl rfl (hat.cell _)) ?_
              refine RL.opd (v := .int .i64 (m : Nat)) 64 rfl rfl rfl (X_move rfl) ?_
              refine RL.opd (v := .pointer (some ⟨b, o + (m) * 1, none⟩)) 65 rfl rfl rfl (X_indexAddr Try.underlying23 Try.inf34 rfl rfl (by omega)) ?_
              refine RL.opd (v := .slice C ls[m].length c) 66 rfl rfl rfl (X_load Try.underlying34 rfl rfl (hK.cell hcm (fun h => h))) ?_
              refine RL.opd (v := .int .i64 (ls[m].length : Nat)) 67 rfl rfl rfl (X_len Try.underlying34 rfl) ?_
              refine RL.opd (v := .bool (decide (((q : Nat) : Int) < (ls[m].length : Nat)))) 68 rfl rfl rfl (X_lss rfl rfl) ?_
              refine RL.nil ?_
              refine RW.cond rfl (fun hlt3 => ?_) (fun hlt3 => ?_)
              · -- slot 68: True
                refine RW.skip ?_
                refine RW.seq ?_
                refine RW.block ?_
                refine RW.seq ?_
                have hlt3 := of_decide_eq_true hlt3
                have hq' : q < ls[m].length := by omega
                obtain ⟨b3, o3, rfl, hc3⟩ := hrow.elem 3 (fun _ => rfl) hq'
                have hcq := hc3 q hq'
                refine RW.region ?_
                refine RL.opd (v := .pointer (some ⟨B1, 1, none⟩)) 71 rfl rfl rfl (X_fieldAddr Try.underlying25 rfl Try.inf23 rfl rfl) ?_
                refine RL.opd (v := .slice (some ⟨b, o, none⟩) ls.length c2) 72 rfl rfl rfl (X_load Try.underlying23 rfl rfl (hat.cell _)) ?_
                refine RL.opd (v := .int .i64 (m : Nat)) 73 rfl rfl rfl (X_move rfl) ?_
                refine RL.opd (v := .pointer (some ⟨b, o + (m) * 1, none⟩)) 74 rfl rfl rfl (X_indexAddr Try.underlying23 Try.inf34 rfl rfl (by omega)) ?_
                refine RL.opd (v := .slice (some ⟨b3, o3, none⟩) ls[m].length c) 75 rfl rfl rfl (X_load Try.underlying34 rfl rfl (hK.cell hcm (fun h => h))) ?_
                refine RL.opd (v := .int .i64 (q : Nat)) 76 rfl rfl rfl (X_move rfl) ?_
                refine RL.opd (v := .pointer (some ⟨b3, o3 + (q) * 4, none⟩)) 77 rfl rfl rfl (X_indexAddr Try.underlying34 Try.inf103 rfl rfl (by omega)) ?_
                refine RL.opd (v := .agg #[.int .i64 ls[m][q].tick, .int .i64 ls[m][q].pos, .int .i64 ls[m][q].dir, .bool ls[m][q].door]) 78 rfl rfl rfl (X_loadAgg (ls[m][q].enc) Try.underlying103 rfl Try.inf103 rfl (fun j u hu => (hK.cell (hcq j u hu) (fun h => h)))) ?_
                refine RL.alloc rfl rfl Try.inf103 ⟨rfl, rfl⟩ (fun B19 w20 ge23 hB22 K21 => ?_)
                have gb_B19 : w.heap.size ≤ B19 := Nat.le_trans hK.size ge23
                have ne24 : B1 ≠ B19 := by have := hat.lt; omega
                have sz25 := K21.size
                replace hat := K21.at_ hat (fun h => h)
                have KK26 := hK.trans K21
                refine RL.storeAt (v := .agg #[.int .i64 ls[m][q].tick, .int .i64 ls[m][q].pos, .int .i64 ls[m][q].dir, .bool ls[m][q].door]) rfl rfl rfl Try.inf103 rfl rfl rfl rfl hB22 (Nat.le_of_ble_eq_true rfl) (fun w27 hB29 K28 => ?_)
                try (rw [splice_all rfl] at hB29)
                replace hat := K28.at_ hat (by intro h; exact absurd h (by omega))
                have KK30 := KK26.trans_new K28 (fun i hi h => absurd h (by omega))
                refine RL.nil ?_
                refine RW.seq ?_
                refine RW.drawK Try.mixed (fun w31 hw32 hcl hS => ?_)
                have K33 : Keeps none_ w27 w31 := by rw [hw32]; exact Keeps.drew _ _
                clear hw32
                have sz34 := K33.size
                replace hat := K33.at_ hat (fun h => h)
                replace hB29 := K33.at_ hB29 (fun h => h)
                have KK35 := KK30.trans K33
                refine RD.takesK (by kernel_rfl) [0, 1, 2, 3, 4, 5, 6, 7, 8, 9, 10, 11, 12, 13, 14, 15, 16, 17, 18, 19, 20, 21, 22, 23, 24, 25, 26, 27, 28, 29, 30, 31, 32, 33, 34, 35, 36, 37, 38, 39, 40, 41, 42, 43, 44, 45, 46] 0 rfl (by kernel_rfl) hcl hS ?_
                refine RQ.opd 79 rfl rfl rfl (Yld.plain (v := .int .i64 (q : Nat)) rfl (fun _ _ => (X_move rfl))) ?_
                refine RQ.opd 80 rfl rfl rfl (Yld.plain (v := .bool (decide ((60 : Int) < (q : Nat)))) rfl (fun _ _ => (X_gtr rfl rfl))) ?_
                refine RQ.opd 81 rfl rfl rfl (Yld.plain (v := .bool (decide ((60 : Int) < (q : Nat)))) rfl (fun _ _ => (X_move rfl))) ?_
                refine RQ.opd 82 rfl rfl rfl (Yld.guard (v := .int .i64 (q : Nat)) rfl rfl rfl rfl (fun hg _ _ => (X_move rfl))) ?_
                refine RQ.opd 83 rfl rfl rfl (Yld.guard (v := .bool (decide ((0 : Int) < (q : Nat)))) rfl rfl rfl rfl (fun hg _ _ => (X_gtr (gb_on hg) rfl))) ?_
                refine RQ.opd 84 rfl rfl rfl (Yld.guard (v := .bool (decide ((0 : Int) < (q : Nat)))) rfl rfl rfl rfl (fun hg _ _ => (X_move (gb_on hg)))) ?_
                refine RQ.opd 85 rfl rfl rfl (Yld.guard2 (v := .pointer (some ⟨B19, 0, none⟩)) rfl rfl rfl rfl (fun hg _ _ => (X_fieldAddr Try.underlying103 rfl Try.inf3 rfl rfl))) ?_
                refine RQ.opd 86 rfl rfl rfl (Yld.g2K (v := .int .i64 ls[m][q].tick) rfl rfl rfl rfl (fun hg _ hk => (X_load Try.underlying3 rfl (gb_on hg) (hk.cell (hB29.cell _) (fun h => h))))) ?_
                refine RQ.opd 87 rfl rfl rfl (Yld.guard2 (v := .pointer (some ⟨B1, 1, none⟩)) rfl rfl rfl rfl (fun hg _ _ => (X_fieldAddr Try.underlying25 rfl Try.inf23 rfl rfl))) ?_
                refine RQ.opd 88 rfl rfl rfl (Yld.g2K (v := .slice (some ⟨b, o, none⟩) ls.length c2) rfl rfl rfl rfl (fun hg _ hk => (X_load Try.underlying23 rfl (gb_on hg) (hk.cell (hat.cell _) (fun h => h))))) ?_
                refine RQ.opd 89 rfl rfl rfl (Yld.guard2 (v := .int .i64 (m : Nat)) rfl rfl rfl rfl (fun hg _ _ => (X_move rfl))) ?_
                refine RQ.opd 90 rfl rfl rfl (Yld.guard2 (v := .pointer (some ⟨b, o + (m) * 1, none⟩)) rfl rfl rfl rfl (fun hg _ _ => (X_indexAddr Try.underlying23 Try.inf34 (gb_on hg) (gb_on hg) (by omega)))) ?_
                refine RQ.opd 91 rfl rfl rfl (Yld.g2K (v := .slice (some ⟨b3, o3, none⟩) ls[m].length c) rfl rfl rfl rfl (fun hg _ hk => (X_load Try.underlying34 rfl (gb_on hg) (hk.cell (KK35.cell hcm (fun h => h)) (fun h => h))))) ?_
                refine RQ.opd 92 rfl rfl rfl (Yld.guard2 (v := .int .i64 (q : Nat)) rfl rfl rfl rfl (fun hg _ _ => (X_move rfl))) ?_
                refine RQ.opd 93 rfl rfl rfl (Yld.guard2 (v := .int .i64 ((q - 1 : Nat) : Int)) rfl rfl rfl rfl (fun hg _ _ => (X_sub (gb_on hg) rfl (by omega) (show (q : Int) - 1 = ((q - 1 : Nat) : Int) by have h0 := hg; simp at h0; omega)))) ?_
                refine RQ.opd 94 rfl rfl rfl (Yld.guard2 (v := .pointer (some ⟨b3, o3 + (q - 1) * 4, none⟩)) rfl rfl rfl rfl (fun hg _ _ => (X_indexAddr Try.underlying34 Try.inf103 (gb_on hg) (gb_on hg) (by omega)))) ?_
                refine RQ.opd 95 rfl rfl rfl (Yld.guard2 (v := .pointer (some ⟨b3, o3 + (q - 1) * 4 + 0, none⟩)) rfl rfl rfl rfl (fun hg _ _ => (X_fieldAddr Try.underlying103 rfl Try.inf3 (gb_on hg) rfl))) ?_
                refine RQ.opd 96 rfl rfl rfl (Yld.g2K (v := .int .i64 ls[m][q - 1].tick) rfl rfl rfl rfl (fun hg _ hk => (X_load Try.underlying3 rfl (gb_on hg) (hk.cell (KK35.cell (hc3 (q - 1) (by omega) 0 _ rfl) (fun h => h)) (fun h => h))))) ?_
                refine RQ.opd 97 rfl rfl rfl (Yld.guard2 (v := .bool (decide ((ls[m][q].tick : Int) ≤ ls[m][q - 1].tick))) rfl rfl rfl rfl (fun hg _ _ => (X_leq (gb_on hg) (gb_on hg)))) ?_
                refine RQ.opd 98 rfl rfl rfl (Yld.guard (v := .bool (bif (decide ((0 : Int) < (q : Nat))) then (decide ((ls[m][q].tick : Int) ≤ ls[m][q - 1].tick)) else false)) rfl rfl rfl rfl (fun hg _ _ => (X_pickB (gb_on hg) (fun h => gb2T hg h) (fun _ => rfl)))) ?_
                refine RQ.opd 99 rfl rfl rfl (Yld.plain (v := .bool (bif (decide ((60 : Int) < (q : Nat))) then true else (bif (decide ((0 : Int) < (q : Nat))) then (decide ((ls[m][q].tick : Int) ≤ ls[m][q - 1].tick)) else false))) rfl (fun _ _ => (X_pickB rfl (fun _ => rfl) (fun h => gbF h)))) ?_
                refine RQ.opd 100 rfl rfl rfl (Yld.plain (v := .bool (bif (decide ((60 : Int) < (q : Nat))) then true else (bif (decide ((0 : Int) < (q : Nat))) then (decide ((ls[m][q].tick : Int) ≤ ls[m][q - 1].tick)) else false))) rfl (fun _ _ => (X_move rfl))) ?_
                refine RQ.opd 101 rfl rfl rfl (Yld.guard (v := .pointer (some ⟨B19, 1, none⟩)) rfl rfl rfl rfl (fun hg _ _ => (X_fieldAddr Try.underlying103 rfl Try.inf3 rfl rfl))) ?_
                refine RQ.opd 102 rfl rfl rfl (Yld.gK (v := .int .i64 ls[m][q].pos) rfl rfl rfl rfl (fun hg _ hk => (X_load Try.underlying3 rfl (gb_on hg) (hk.cell (hB29.cell _) (fun h => h))))) ?_
                refine RQ.opd 103 rfl rfl rfl (Yld.guard (v := .pointer (some ⟨B19, 0, none⟩)) rfl rfl rfl rfl (fun hg _ _ => (X_fieldAddr Try.underlying103 rfl Try.inf3 rfl rfl))) ?_
                refine RQ.opd 104 rfl rfl rfl (Yld.gK (v := .int .i64 ls[m][q].tick) rfl rfl rfl rfl (fun hg _ hk => (X_load Try.underlying3 rfl (gb_on hg) (hk.cell (hB29.cell _) (fun h => h))))) ?_
                refine RQ.opd 105 rfl rfl rfl (Yld.guard (v := .int .i64 (mn (ls[m][q].pos) (ls[m][q].tick))) rfl rfl rfl rfl (fun hg _ _ => (X_min2 (gb_on hg) (gb_on hg)))) ?_
                refine RQ.opd 106 rfl rfl rfl (Yld.guard (v := .bool (decide (((mn (ls[m][q].pos) (ls[m][q].tick)) : Int) < (-1073741824)))) rfl rfl rfl rfl (fun hg _ _ => (X_lss (gb_on hg) rfl))) ?_
                refine RQ.opd 107 rfl rfl rfl (Yld.plain (v := .bool (bif (bif (decide ((60 : Int) < (q : Nat))) then true else (bif (decide ((0 : Int) < (q : Nat))) then (decide ((ls[m][q].tick : Int) ≤ ls[m][q - 1].tick)) else false)) then true else (decide (((mn (ls[m][q].pos) (ls[m][q].tick)) : Int) < (-1073741824))))) rfl (fun _ _ => (X_pickB rfl (fun _ => rfl) (fun h => gbF h)))) ?_
                refine RQ.opd 108 rfl rfl rfl (Yld.plain (v := .bool (bif (bif (decide ((60 : Int) < (q : Nat))) then true else (bif (decide ((0 : Int) < (q : Nat))) then (decide ((ls[m][q].tick : Int) ≤ ls[m][q - 1].tick)) else false)) then true else (decide (((mn (ls[m][q].pos) (ls[m][q].tick)) : Int) < (-1073741824))))) rfl (fun _ _ => (X_move rfl))) ?_
                refine RQ.opd 109 rfl rfl rfl (Yld.guard (v := .pointer (some ⟨B19, 1, none⟩)) rfl rfl rfl rfl (fun hg _ _ => (X_fieldAddr Try.underlying103 rfl Try.inf3 rfl rfl))) ?_
                refine RQ.opd 110 rfl rfl rfl (Yld.gK (v := .int .i64 ls[m][q].pos) rfl rfl rfl rfl (fun hg _ hk => (X_load Try.underlying3 rfl (gb_on hg) (hk.cell (hB29.cell _) (fun h => h))))) ?_
                refine RQ.opd 111 rfl rfl rfl (Yld.guard (v := .pointer (some ⟨B19, 0, none⟩)) rfl rfl rfl rfl (fun hg _ _ => (X_fieldAddr Try.underlying103 rfl Try.inf3 rfl rfl))) ?_
                refine RQ.opd 112 rfl rfl rfl (Yld.gK (v := .int .i64 ls[m][q].tick) rfl rfl rfl rfl (fun hg _ hk => (X_load Try.underlying3 rfl (gb_on hg) (hk.cell (hB29.cell _) (fun h => h))))) ?_
                refine RQ.opd 113 rfl rfl rfl (Yld.guard (v := .int .i64 (mx (ls[m][q].pos) (ls[m][q].tick))) rfl rfl rfl rfl (fun hg _ _ => (X_max2 (gb_on hg) (gb_on hg)))) ?_
                refine RQ.opd 114 rfl rfl rfl (Yld.guard (v := .bool (decide ((1073741824 : Int) < (mx (ls[m][q].pos) (ls[m][q].tick))))) rfl rfl rfl rfl (fun hg _ _ => (X_gtr (gb_on hg) rfl))) ?_
                refine RQ.opd 115 rfl rfl rfl (Yld.plain (v := .bool (bif (bif (bif (decide ((60 : Int) < (q : Nat))) then true else (bif (decide ((0 : Int) < (q : Nat))) then (decide ((ls[m][q].tick : Int) ≤ ls[m][q - 1].tick)) else false)) then true else (decide (((mn (ls[m][q].pos) (ls[m][q].tick)) : Int) < (-1073741824)))) then true else (decide ((1073741824 : Int) < (mx (ls[m][q].pos) (ls[m][q].tick)))))) rfl (fun _ _ => (X_pickB rfl (fun _ => rfl) (fun h => gbF h)))) ?_
                refine RQ.opd 116 rfl rfl rfl (Yld.plain (v := .bool (bif (bif (bif (decide ((60 : Int) < (q : Nat))) then true else (bif (decide ((0 : Int) < (q : Nat))) then (decide ((ls[m][q].tick : Int) ≤ ls[m][q - 1].tick)) else false)) then true else (decide (((mn (ls[m][q].pos) (ls[m][q].tick)) : Int) < (-1073741824)))) then true else (decide ((1073741824 : Int) < (mx (ls[m][q].pos) (ls[m][q].tick)))))) rfl (fun _ _ => (X_move rfl))) ?_
                refine RQ.opd 117 rfl rfl rfl (Yld.guard (v := .pointer (some ⟨B19, 2, none⟩)) rfl rfl rfl rfl (fun hg _ _ => (X_fieldAddr Try.underlying103 rfl Try.inf3 rfl rfl))) ?_
                refine RQ.opd 118 rfl rfl rfl (Yld.gK (v := .int .i64 ls[m][q].dir) rfl rfl rfl rfl (fun hg _ hk => (X_load Try.underlying3 rfl (gb_on hg) (hk.cell (hB29.cell _) (fun h => h))))) ?_
                refine RQ.opd 119 rfl rfl rfl (Yld.guard (v := .bool (decide ((ls[m][q].dir : Int) < (-1)))) rfl rfl rfl rfl (fun hg _ _ => (X_lss (gb_on hg) rfl))) ?_
                refine RQ.opd 120 rfl rfl rfl (Yld.plain (v := .bool (bif (bif (bif (bif (decide ((60 : Int) < (q : Nat))) then true else (bif (decide ((0 : Int) < (q : Nat))) then (decide ((ls[m][q].tick : Int) ≤ ls[m][q - 1].tick)) else false)) then true else (decide (((mn (ls[m][q].pos) (ls[m][q].tick)) : Int) < (-1073741824)))) then true else (decide ((1073741824 : Int) < (mx (ls[m][q].pos) (ls[m][q].tick))))) then true else (decide ((ls[m][q].dir : Int) < (-1))))) rfl (fun _ _ => (X_pickB rfl (fun _ => rfl) (fun h => gbF h)))) ?_
                refine RQ.opd 121 rfl rfl rfl (Yld.plain (v := .bool (bif (bif (bif (bif (decide ((60 : Int) < (q : Nat))) then true else (bif (decide ((0 : Int) < (q : Nat))) then (decide ((ls[m][q].tick : Int) ≤ ls[m][q - 1].tick)) else false)) then true else (decide (((mn (ls[m][q].pos) (ls[m][q].tick)) : Int) < (-1073741824)))) then true else (decide ((1073741824 : Int) < (mx (ls[m][q].pos) (ls[m][q].tick))))) then true else (decide ((ls[m][q].dir : Int) < (-1))))) rfl (fun _ _ => (X_move rfl))) ?_
                refine RQ.opd 122 rfl rfl rfl (Yld.guard (v := .pointer (some ⟨B19, 2, none⟩)) rfl rfl rfl rfl (fun hg _ _ => (X_fieldAddr Try.underlying103 rfl Try.inf3 rfl rfl))) ?_
                refine RQ.opd 123 rfl rfl rfl (Yld.gK (v := .int .i64 ls[m][q].dir) rfl rfl rfl rfl (fun hg _ hk => (X_load Try.underlying3 rfl (gb_on hg) (hk.cell (hB29.cell _) (fun h => h))))) ?_
                refine RQ.opd 124 rfl rfl rfl (Yld.guard (v := .bool (decide ((1 : Int) < ls[m][q].dir))) rfl rfl rfl rfl (fun hg _ _ => (X_gtr (gb_on hg) rfl))) ?_
                refine RQ.opd 125 rfl rfl rfl (Yld.plain (v := .bool (bif (bif (bif (bif (bif (decide ((60 : Int) < (q : Nat))) then true else (bif (decide ((0 : Int) < (q : Nat))) then (decide ((ls[m][q].tick : Int) ≤ ls[m][q - 1].tick)) else false)) then true else (decide (((mn (ls[m][q].pos) (ls[m][q].tick)) : Int) < (-1073741824)))) then true else (decide ((1073741824 : Int) < (mx (ls[m][q].pos) (ls[m][q].tick))))) then true else (decide ((ls[m][q].dir : Int) < (-1)))) then true else (decide ((1 : Int) < ls[m][q].dir)))) rfl (fun _ _ => (X_pickB rfl (fun _ => rfl) (fun h => gbF h)))) ?_
                refine RQ.nil ?_
                clear hcl hS
                intro hcl hS
                refine RD.done (by kernel_rfl) hcl hS ?_
                refine RW.cond rfl (fun hcl3 => ?_) (fun hcl3 => ?_)
                · -- slot 125: True
                  refine RW.seq ?_
                  refine RW.region ?_
                  refine RL.opd (v := .bool false) 2 rfl rfl rfl (X_assign rfl) ?_
                  refine RL.nil ?_
                  refine RW.ret ?_
                  exact ret1 (.inl rfl) rfl ⟨false, rfl, fun h => Bool.noConfusion h, KK35⟩
                · -- slot 125: False
                  refine RW.skip ?_
                  refine RW.region ?_
                  refine RL.opd (v := .int .i64 (q : Nat)) 69 rfl rfl rfl (X_move rfl) ?_
                  refine RL.opd (v := .int .i64 (((q : Nat) : Int) + 1)) 70 rfl rfl rfl (X_add rfl rfl (by omega) rfl) ?_
                  refine RL.opd (v := .int .i64 (((q : Nat) : Int) + 1)) 6 rfl rfl rfl (X_assign rfl) ?_
                  refine RL.nil ?_
                  refine ⟨gk3 - 1, by omega, ⟨rfl, rfl⟩, ?_⟩
                  obtain ⟨hcl3, h6⟩ := or_f hcl3
                  obtain ⟨hcl3, h5⟩ := or_f hcl3
                  obtain ⟨hcl3, h4⟩ := or_f hcl3
                  obtain ⟨hcl3, h3⟩ := or_f hcl3
                  obtain ⟨h1, h2⟩ := or_f hcl3
                  have h1 := of_decide_eq_false h1
                  have h2 := and_f h2
                  have h3 := mn2 h3
                  have h4 := mx2 h4
                  have h5 := of_decide_eq_false h5
                  have h6 := of_decide_eq_false h6
                  refine ⟨q + 1, rfl, by omega, by omega, by omega, fun i hi h0 h => ?_, fun i hi h => ?_, hat, KK35⟩
                  · by_cases e : i = q
                    · subst e; rcases h2 with h2 | h2 <;> have h2 := of_decide_eq_false h2 <;> omega
                    · exact hri i (by omega) h0 h
                  · by_cases e : i = q
                    · subst e; exact ⟨by omega, by omega, by omega⟩
                    · exact hok i (by omega) h
              · -- slot 68: False
                refine RW.exit ?_
                refine RW.region ?_
                refine RL.opd (v := .int .i64 (m : Nat)) 59 rfl rfl rfl (X_move rfl) ?_
                refine RL.opd (v := .int .i64 (((m : Nat) : Int) + 1)) 60 rfl rfl rfl (X_add rfl rfl (by omega) rfl) ?_
                refine RL.opd (v := .int .i64 (((m : Nat) : Int) + 1)) 5 rfl rfl rfl (X_assign rfl) ?_
                refine RL.nil ?_
                refine ⟨gk2 - 1, by omega, rfl, ?_⟩
                refine ⟨m + 1, rfl, by omega, by omega, fun i hi h => ?_, hat, hK⟩
                by_cases e : i = m
                · subst e
                  obtain rfl : q = ls[i].length := by have := of_decide_eq_false hlt3; omega
                  exact ⟨by omega, rises_of hri, fun i h => hok i h h⟩
                · exact hlg i (by omega) h
          · -- slot 58: False
            refine RW.exit ?_
            refine RW.seq ?_
            refine RW.region ?_
            refine RL.opd (v := .bool true) 2 rfl rfl rfl (X_assign rfl) ?_
            refine RL.nil ?_
            refine RW.ret ?_
            refine ret1 (.inl rfl) rfl ?_
            refine ⟨true, rfl, fun _ => ⟨by omega, by omega, fun i h => htr i (by have := of_decide_eq_false hlt; omega) h, fun i h => hlg i (by have := of_decide_eq_false hlt2; omega) h⟩, hK⟩

end Go.Proofs
