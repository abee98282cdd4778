/- The law's riders. -/
import Derived.Test.YtjahbhpcaenllaaHwTypes
import Derived.Test.YtjahbhpcaenllaaHwRidersLaw
namespace Hw.Sym
end Hw.Sym
namespace Go.Proofs
open Go.RowKit Go.Hw Hw.Sym
set_option maxRecDepth 10000 in
theorem riders_any (A : Option Addr) (cap : Nat) (l : List Trip) (w : World) (car tick : Int) (hn : l.length ≤ 1000000) (hid : ∀ i (h : i < l.length), l[i].id = i) (hT : Row w A (l.flatMap Trip.enc)) :
    Calls Try.prog 11 #[.slice A l.length cap, .int .i64 car, .int .i64 tick] w fun e w' => ∃ v, e = .returned v ∧ w'.ownsRow 0 3 1 v (ridK l car tick l.length).length (ints (ridK l car tick l.length)) ∧ Keeps none_ w w' ∧ (∀ g, v.ownBlock = some g → w.heap.size ≤ g) := by
  refine calls_of_RW Try.func11 rfl (Nat.le_of_ble_eq_true rfl) ?_
  refine RW.seq ?_
  refine RW.region ?_
  refine RL.opd (v := .slice none 0 0) 6 rfl rfl rfl (X_assign rfl) ?_
  refine RL.nil ?_
  refine RW.seq ?_
  refine RW.region ?_
  refine RL.opd (v := .slice none 0 0) 7 rfl rfl rfl (X_assign rfl) ?_
  refine RL.nil ?_
  refine RW.seq ?_
  refine RW.seq ?_
  refine RW.region ?_
  refine RL.opd (v := .int .i64 0) 8 rfl rfl rfl (X_assign rfl) ?_
  refine RL.nil ?_
  refine RW.block ?_
  refine RW.loop (fun gk φ wr => (φ 0 = .slice A l.length cap ∧ φ 1 = .int .i64 car ∧ φ 2 = .int .i64 tick) ∧ ∃ (A1 : Option Addr) (c1 : Nat) (out : List Int) (k : Nat), φ 7 = .slice A1 out.length c1 ∧ φ 8 = .int .i64 (k : Nat) ∧ k ≤ l.length ∧ gk + k = l.length ∧ out = ridK l car tick k ∧ wr.ownsRow 0 3 1 (.slice A1 out.length c1) out.length (ints out) ∧ Keeps none_ w wr ∧ (∀ g, Value.ownBlock (.slice A1 out.length c1) = some g → w.heap.size ≤ g)) l.length ?_ ?_
  · exact ⟨⟨rfl, rfl, rfl⟩, none, 0, [], 0, rfl, rfl, Nat.zero_le _, rfl, (ridK_zero l car tick).symm, World.ownsRow_nil _ _ _ _, Keeps.refl _ _, (fun g h => by cases h)⟩
  · rintro gk1 φ wr1 ⟨⟨h_0, h_1, h_2⟩, A1, c1, out, k, h_7, h_8, hk, hgk, hout, hown, hK, hge⟩
    obtain ⟨φ0, rfl⟩ : ∃ φ0, φ = upd (upd (upd (upd (upd φ0 0 (.slice A l.length cap)) 1 (.int .i64 car)) 2 (.int .i64 tick)) 7 (.slice A1 out.length c1)) 8 (.int .i64 (k : Nat)) := ⟨φ, by rw [upd_of h_0, upd_of h_1, upd_of h_2, upd_of h_7, upd_of h_8]⟩
    clear h_0 h_1 h_2 h_7 h_8
    have hsz := hK.size
    refine RW.seq ?_
    refine RW.seq ?_
    refine RW.region ?_
    refine RL.opd (v := .int .i64 (k : Nat)) 11 rfl rfl rfl (X_move rfl) ?_
    refine RL.opd (v := .slice A l.length cap) 12 rfl rfl rfl (X_move rfl) ?_
    refine RL.opd (v := .int .i64 (l.length : Nat)) 13 rfl rfl rfl (X_len Try.underlying22 rfl) ?_
    refine RL.opd (v := .bool (decide (((k : Nat) : Int) < (l.length : Nat)))) 14 rfl rfl rfl (X_lss rfl rfl) ?_
    refine RL.nil ?_
    refine RW.cond rfl (fun hlt => ?_) (fun hlt => ?_)
    · -- slot 14: True
      refine RW.skip ?_
      refine RW.seq ?_
      refine RW.block ?_
      refine RW.seq ?_
      have hlt := of_decide_eq_true hlt
      have hlt : k < l.length := by omega
      obtain ⟨b, o, rfl, hc0⟩ := hT.elem 6 (fun _ => rfl) hlt
      have hck := hc0 k hlt
      have hall : ∀ x ∈ out, 0 ≤ x ∧ x < l.length := by rw [hout]; exact ridK_mem l car tick k hid
      have hol : out.length ≤ k := by rw [hout]; exact ridK_len l car tick k hid
      refine RW.region ?_
      refine RL.opd (v := .slice (some ⟨b, o, none⟩) l.length cap) 17 rfl rfl rfl (X_move rfl) ?_
      refine RL.opd (v := .int .i64 (k : Nat)) 18 rfl rfl rfl (X_move rfl) ?_
      refine RL.opd (v := .pointer (some ⟨b, o + (k) * 7, none⟩)) 19 rfl rfl rfl (X_indexAddr Try.underlying22 Try.inf29 rfl rfl (by omega)) ?_
      refine RL.opd (v := .agg #[.int .i64 l[k].id, .int .i64 l[k].arrive, .int .i64 l[k].frm, .int .i64 l[k].to, .int .i64 l[k].car, .int .i64 l[k].board, .int .i64 l[k].alight]) 20 rfl rfl rfl (X_loadAgg (l[k].enc) Try.underlying29 rfl Try.inf29 rfl (fun j u hu => (hK.cell (hck j u hu) (fun h => h)))) ?_
      refine RL.alloc rfl rfl Try.inf29 ⟨rfl, rfl⟩ (fun B1 w2 ge5 hB4 K3 => ?_)
      have gb_B1 : w.heap.size ≤ B1 := Nat.le_trans hK.size ge5
      have ne_v_B1 : ∀ g, Value.ownBlock (.slice A1 out.length c1) = some g → g ≠ B1 := fun g hg => by have := owns_lt hown g hg; omega
      have sz6 := K3.size
      replace hown := K3.owns hown (fun _ _ h => h)
      have KK7 := hK.trans K3
      refine RL.storeAt (v := .agg #[.int .i64 l[k].id, .int .i64 l[k].arrive, .int .i64 l[k].frm, .int .i64 l[k].to, .int .i64 l[k].car, .int .i64 l[k].board, .int .i64 l[k].alight]) rfl rfl rfl Try.inf29 rfl rfl rfl rfl hB4 (Nat.le_of_ble_eq_true rfl) (fun w8 hB10 K9 => ?_)
      try (rw [splice_all rfl] at hB10)
      replace hown := K9.owns hown (fun g hg h => ne_v_B1 g hg h)
      have KK11 := KK7.trans_new K9 (fun i hi h => absurd h (by omega))
      refine RL.nil ?_
      refine RW.seq ?_
      refine RW.seq ?_
      refine RW.region ?_
      refine RL.opd (v := .pointer (some ⟨B1, 4, none⟩)) 21 rfl rfl rfl (X_fieldAddr Try.underlying29 rfl Try.inf3 rfl rfl) ?_
      refine RL.opd (v := .int .i64 l[k].car) 22 rfl rfl rfl (X_load Try.underlying3 rfl rfl (hB10.cell _)) ?_
      refine RL.opd (v := .int .i64 car) 23 rfl rfl rfl (X_move rfl) ?_
      refine RL.opd (v := .bool (!decide ((l[k].car : Int) = car))) 24 rfl rfl rfl (X_neq rfl rfl) ?_
      refine RL.opd (v := .bool (!decide ((l[k].car : Int) = car))) 25 rfl rfl rfl (X_move rfl) ?_
      refine RL.gopd (v := .pointer (some ⟨B1, 5, none⟩)) 26 rfl rfl rfl rfl (fun hg => (X_fieldAddr Try.underlying29 rfl Try.inf3 rfl rfl)) rfl rfl ?_
      refine RL.gopd (v := .int .i64 l[k].board) 27 rfl rfl rfl rfl (fun hg => (X_load Try.underlying3 rfl (gb_on hg) (hB10.cell _))) rfl rfl ?_
      refine RL.gopd (v := .bool (decide ((l[k].board : Int) < 0))) 28 rfl rfl rfl rfl (fun hg => (X_lss (gb_on hg) rfl)) rfl rfl ?_
      refine RL.opd (v := .bool (bif (!decide ((l[k].car : Int) = car)) then true else (decide ((l[k].board : Int) < 0)))) 29 rfl rfl rfl (X_pickB rfl (fun _ => rfl) (fun h => gbF h)) ?_
      refine RL.opd (v := .bool (bif (!decide ((l[k].car : Int) = car)) then true else (decide ((l[k].board : Int) < 0)))) 30 rfl rfl rfl (X_move rfl) ?_
      refine RL.gopd (v := .pointer (some ⟨B1, 5, none⟩)) 31 rfl rfl rfl rfl (fun hg => (X_fieldAddr Try.underlying29 rfl Try.inf3 rfl rfl)) rfl rfl ?_
      refine RL.gopd (v := .int .i64 l[k].board) 32 rfl rfl rfl rfl (fun hg => (X_load Try.underlying3 rfl (gb_on hg) (hB10.cell _))) rfl rfl ?_
      refine RL.gopd (v := .int .i64 tick) 33 rfl rfl rfl rfl (fun hg => (X_move rfl)) rfl rfl ?_
      refine RL.gopd (v := .bool (decide ((tick : Int) < l[k].board))) 34 rfl rfl rfl rfl (fun hg => (X_gtr (gb_on hg) (gb_on hg))) rfl rfl ?_
      refine RL.opd (v := .bool (bif (bif (!decide ((l[k].car : Int) = car)) then true else (decide ((l[k].board : Int) < 0))) then true else (decide ((tick : Int) < l[k].board)))) 35 rfl rfl rfl (X_pickB rfl (fun _ => rfl) (fun h => gbF h)) ?_
      refine RL.opd (v := .bool (bif (bif (!decide ((l[k].car : Int) = car)) then true else (decide ((l[k].board : Int) < 0))) then true else (decide ((tick : Int) < l[k].board)))) 36 rfl rfl rfl (X_move rfl) ?_
      refine RL.gopd (v := .pointer (some ⟨B1, 6, none⟩)) 37 rfl rfl rfl rfl (fun hg => (X_fieldAddr Try.underlying29 rfl Try.inf3 rfl rfl)) rfl rfl ?_
      refine RL.gopd (v := .int .i64 l[k].alight) 38 rfl rfl rfl rfl (fun hg => (X_load Try.underlying3 rfl (gb_on hg) (hB10.cell _))) rfl rfl ?_
      refine RL.gopd (v := .bool (decide ((0 : Int) ≤ l[k].alight))) 39 rfl rfl rfl rfl (fun hg => (X_geq (gb_on hg) rfl)) rfl rfl ?_
      refine RL.gopd (v := .bool (decide ((0 : Int) ≤ l[k].alight))) 40 rfl rfl rfl rfl (fun hg => (X_move (gb_on hg))) rfl rfl ?_
      refine RL.gop2d (v := .pointer (some ⟨B1, 6, none⟩)) 41 rfl rfl rfl rfl (fun hg => (X_fieldAddr Try.underlying29 rfl Try.inf3 rfl rfl)) rfl rfl ?_
      refine RL.gop2d (v := .int .i64 l[k].alight) 42 rfl rfl rfl rfl (fun hg => (X_load Try.underlying3 rfl (gb_on hg) (hB10.cell _))) rfl rfl ?_
      refine RL.gop2d (v := .int .i64 tick) 43 rfl rfl rfl rfl (fun hg => (X_move rfl)) rfl rfl ?_
      refine RL.gop2d (v := .bool (decide ((l[k].alight : Int) ≤ tick))) 44 rfl rfl rfl rfl (fun hg => (X_leq (gb_on hg) (gb_on hg))) rfl rfl ?_
      refine RL.gopd (v := .bool (bif (decide ((0 : Int) ≤ l[k].alight)) then (decide ((l[k].alight : Int) ≤ tick)) else false)) 45 rfl rfl rfl rfl (fun hg => (X_pickB (gb_on hg) (fun h => gb2T hg h) (fun _ => rfl))) rfl rfl ?_
      refine RL.opd (v := .bool (bif (bif (bif (!decide ((l[k].car : Int) = car)) then true else (decide ((l[k].board : Int) < 0))) then true else (decide ((tick : Int) < l[k].board))) then true else (bif (decide ((0 : Int) ≤ l[k].alight)) then (decide ((l[k].alight : Int) ≤ tick)) else false))) 46 rfl rfl rfl (X_pickB rfl (fun _ => rfl) (fun h => gbF h)) ?_
      refine RL.nil ?_
      refine RW.cond rfl (fun hcc => ?_) (fun hcc => ?_)
      · -- slot 46: True
        refine RW.exit ?_
        refine RW.region ?_
        refine RL.opd (v := .int .i64 (k : Nat)) 15 rfl rfl rfl (X_move rfl) ?_
        refine RL.opd (v := .int .i64 (((k : Nat) : Int) + 1)) 16 rfl rfl rfl (X_add rfl rfl (by omega) rfl) ?_
        refine RL.opd (v := .int .i64 (((k : Nat) : Int) + 1)) 8 rfl rfl rfl (X_assign rfl) ?_
        refine RL.nil ?_
        refine ⟨gk1 - 1, by omega, ⟨rfl, rfl, rfl⟩, ?_⟩
        have hsn := ridK_snoc l car tick k hlt (hid k hlt)
        rw [if_neg (by rw [ridersB hcc]; simp)] at hsn
        exact ⟨A1, c1, out, k + 1, rfl, rfl, by omega, by omega, hout.trans hsn.symm, hown, KK11, hge⟩
      · -- slot 46: False
        refine RW.skip ?_
        refine RW.seq ?_
        refine RW.region ?_
        refine RL.opd (v := .slice A1 out.length c1) 47 rfl rfl rfl (X_move rfl) ?_
        refine RL.opd (v := .int .i64 (out.length : Nat)) 48 rfl rfl rfl (X_len Try.underlying27 rfl) ?_
        refine RL.opd (v := .int .i64 (out.length : Nat)) 10 rfl rfl rfl (X_assign rfl) ?_
        refine RL.nil ?_
        refine RW.seq ?_
        refine RW.block ?_
        refine RW.loop (fun gk φ wr => (φ 0 = .slice (some ⟨b, o, none⟩) l.length cap ∧ φ 1 = .int .i64 car ∧ φ 2 = .int .i64 tick ∧ φ 7 = .slice A1 out.length c1 ∧ φ 8 = .int .i64 (k : Nat) ∧ φ 9 = .pointer (some ⟨B1, 0, none⟩)) ∧ ∃ (j : Nat), φ 10 = .int .i64 (j : Nat) ∧ j ≤ out.length ∧ gk = j ∧ Hw.Riders.scan (brd l) (brd l k) out out.length = Hw.Riders.scan (brd l) (brd l k) out j ∧ wr.ownsRow 0 3 1 (.slice A1 out.length c1) out.length (ints out) ∧ At wr B1 (.cells #[.int .i64 l[k].id, .int .i64 l[k].arrive, .int .i64 l[k].frm, .int .i64 l[k].to, .int .i64 l[k].car, .int .i64 l[k].board, .int .i64 l[k].alight] 29) ∧ Keeps none_ w wr) out.length ?_ ?_
        · exact ⟨⟨rfl, rfl, rfl, rfl, rfl, rfl⟩, out.length, rfl, Nat.le_refl _, rfl, rfl, hown, hB10, KK11⟩
        · rintro gk2 φ wr2 ⟨⟨h_0, h_1, h_2, h_7, h_8, h_9⟩, j, h_10, hj, hgj, hsc, hown, hat, hK⟩
          obtain ⟨φ0, rfl⟩ : ∃ φ0, φ = upd (upd (upd (upd (upd (upd (upd φ0 0 (.slice (some ⟨b, o, none⟩) l.length cap)) 1 (.int .i64 car)) 2 (.int .i64 tick)) 7 (.slice A1 out.length c1)) 8 (.int .i64 (k : Nat))) 9 (.pointer (some ⟨B1, 0, none⟩))) 10 (.int .i64 (j : Nat)) := ⟨φ, by rw [upd_of h_0, upd_of h_1, upd_of h_2, upd_of h_7, upd_of h_8, upd_of h_9, upd_of h_10]⟩
          clear h_0 h_1 h_2 h_7 h_8 h_9 h_10
          have hsz := hK.size
          refine RW.seq ?_
          refine RW.seq ?_
          obtain ⟨b1, o1, hA1, hc1⟩ := Row.elem1' (f := Value.int .i64) (l := out) (Row.of_owns hown)
          have hq : 0 < j → ∃ h : j - 1 < out.length, out[j - 1] = (((out.getD (j - 1) 0).toNat : Nat) : Int) ∧ (out.getD (j - 1) 0).toNat < l.length ∧ out.getD (j - 1) 0 = (((out.getD (j - 1) 0).toNat : Nat) : Int) := fun h => out_nat hall h hj
          generalize hqe : (out.getD (j - 1) 0).toNat = q at hq
          have hx : 0 < j → wr2.cell? ⟨b1, o1 + (j - 1) * 1, none⟩ = some (.int .i64 (q : Nat)) := fun h => by
            obtain ⟨h1, h2, _⟩ := hq h
            rw [hc1 _ h1, h2]
          have hne : 0 < j → out ≠ [] := fun h h0 => by rw [h0] at hj; simp at hj; omega
          refine RW.drawK Try.mixed (fun w12 hw13 hcl hS => ?_)
          have K14 : Keeps none_ wr2 w12 := by rw [hw13]; exact Keeps.drew _ _
          clear hw13
          have sz15 := K14.size
          replace hat := K14.at_ hat (fun h => h)
          replace hown := K14.owns hown (fun _ _ h => h)
          have KK16 := hK.trans K14
          refine RD.takesK (by kernel_rfl) [0, 1, 2, 3, 4, 5, 6, 7, 8, 9, 10, 11, 12, 13, 14, 15] 0 rfl (by kernel_rfl) hcl hS ?_
          refine RQ.opd 49 rfl rfl rfl (Yld.plain (v := .int .i64 (j : Nat)) rfl (fun _ _ => (X_move rfl))) ?_
          refine RQ.opd 50 rfl rfl rfl (Yld.plain (v := .bool (decide ((0 : Int) < (j : Nat)))) rfl (fun _ _ => (X_gtr rfl rfl))) ?_
          refine RQ.opd 51 rfl rfl rfl (Yld.plain (v := .bool (decide ((0 : Int) < (j : Nat)))) rfl (fun _ _ => (X_move rfl))) ?_
          refine RQ.opd 52 rfl rfl rfl (Yld.guard (v := .slice (some ⟨b, o, none⟩) l.length cap) rfl rfl rfl rfl (fun hg _ _ => (X_move rfl))) ?_
          refine RQ.opd 53 rfl rfl rfl (Yld.guard (v := .slice A1 out.length c1) rfl rfl rfl rfl (fun hg _ _ => (X_move rfl))) ?_
          refine RQ.opd 54 rfl rfl rfl (Yld.guard (v := .int .i64 (j : Nat)) rfl rfl rfl rfl (fun hg _ _ => (X_move rfl))) ?_
          refine RQ.opd 55 rfl rfl rfl (Yld.guard (v := .int .i64 ((j - 1 : Nat) : Int)) rfl rfl rfl rfl (fun hg _ _ => (X_sub (gb_on hg) rfl (by omega) (show (j : Int) - 1 = ((j - 1 : Nat) : Int) by have := (by simpa using hg : 0 < j); omega)))) ?_
          refine RQ.opd 56 rfl rfl rfl (Yld.guard rfl rfl rfl rfl (fun hg _ _ => (X_indexAddr Try.underlying27 Try.inf3 ((gb_on hg).trans (by rw [hA1 (hne (by simpa using hg : 0 < j))])) (gb_on hg) (by have := (by simpa using hg : 0 < j); omega)))) ?_
          refine RQ.opd 57 rfl rfl rfl (Yld.gK (v := .int .i64 ((q : Nat) : Int)) rfl rfl rfl rfl (fun hg _ hk => (X_load Try.underlying3 rfl (gb_on hg) (hk.cell (K14.cell (hx (by simpa using hg : 0 < j)) (fun h => h)) (fun h => h))))) ?_
          refine RQ.opd 58 rfl rfl rfl (Yld.guard (v := .pointer (some ⟨b, o + (q) * 7, none⟩)) rfl rfl rfl rfl (fun hg _ _ => (X_indexAddr Try.underlying22 Try.inf29 (gb_on hg) (gb_on hg) (by obtain ⟨_, _, h3, _⟩ := hq (by simpa using hg : 0 < j); exact h3)))) ?_
          refine RQ.opd 59 rfl rfl rfl (Yld.guard (v := .pointer (some ⟨b, o + (q) * 7 + 5, none⟩)) rfl rfl rfl rfl (fun hg _ _ => (X_fieldAddr Try.underlying29 rfl Try.inf3 (gb_on hg) rfl))) ?_
          refine RQ.opd 60 rfl rfl rfl (Yld.gK (v := .int .i64 (brd l (q : Nat))) rfl rfl rfl rfl (fun hg _ hk => (X_load Try.underlying3 rfl (gb_on hg) (hk.cell (KK16.cell (trip_board hc0 (by obtain ⟨_, _, h3, _⟩ := hq (by simpa using hg : 0 < j); exact h3)) (fun h => h)) (fun h => h))))) ?_
          refine RQ.opd 61 rfl rfl rfl (Yld.guard (v := .pointer (some ⟨B1, 5, none⟩)) rfl rfl rfl rfl (fun hg _ _ => (X_fieldAddr Try.underlying29 rfl Try.inf3 rfl rfl))) ?_
          refine RQ.opd 62 rfl rfl rfl (Yld.gK (v := .int .i64 l[k].board) rfl rfl rfl rfl (fun hg _ hk => (X_load Try.underlying3 rfl (gb_on hg) (hk.cell (hat.cell _) (fun h => h))))) ?_
          refine RQ.opd 63 rfl rfl rfl (Yld.guard (v := .bool (decide ((l[k].board : Int) < (brd l (q : Nat))))) rfl rfl rfl rfl (fun hg _ _ => (X_gtr (gb_on hg) (gb_on hg)))) ?_
          refine RQ.opd 64 rfl rfl rfl (Yld.plain (v := .bool (bif (decide ((0 : Int) < (j : Nat))) then (decide ((l[k].board : Int) < (brd l (q : Nat)))) else false)) rfl (fun _ _ => (X_pickB rfl (fun h => gbT h) (fun _ => rfl)))) ?_
          refine RQ.nil ?_
          clear hcl hS
          intro hcl hS
          refine RD.done (by kernel_rfl) hcl hS ?_
          refine RW.cond rfl (fun hcj => ?_) (fun hcj => ?_)
          · -- slot 64: True
            refine RW.skip ?_
            refine RW.block ?_
            have hj0 : 0 < j := by
              cases h : decide ((0 : Int) < (j : Nat)) with
              | true => have := of_decide_eq_true h; omega
              | false => rw [h] at hcj; simp at hcj
            refine RW.region ?_
            refine RL.opd (v := .int .i64 (j : Nat)) 65 rfl rfl rfl (X_move rfl) ?_
            refine RL.opd (v := .int .i64 ((j - 1 : Nat) : Int)) 66 rfl rfl rfl (X_sub rfl rfl (by omega) (show (j : Int) - 1 = ((j - 1 : Nat) : Int) by omega)) ?_
            refine RL.opd (v := .int .i64 ((j - 1 : Nat) : Int)) 10 rfl rfl rfl (X_assign rfl) ?_
            refine RL.nil ?_
            refine ⟨gk2 - 1, by omega, ⟨rfl, rfl, rfl, rfl, rfl, rfl⟩, ?_⟩
            obtain ⟨_, _, _, h4⟩ := hq hj0
            have hgt : brd l (out.getD (j - 1) 0) > brd l k := by
              rw [h4, brd_at l k hlt]
              have h1 : decide ((0 : Int) < (j : Nat)) = true := decide_eq_true (by omega)
              rw [h1] at hcj
              exact of_decide_eq_true hcj
            exact ⟨j - 1, rfl, by omega, by omega, hsc.trans (scan_go hj0 hgt), hown, hat, KK16⟩
          · -- slot 64: False
            refine RW.exit ?_
            have hcap := owns_cap hown
            refine RW.drawK Try.mixed (fun w17 hw18 hcl hS => ?_)
            have K19 : Keeps none_ w12 w17 := by rw [hw18]; exact Keeps.drew _ _
            clear hw18
            have sz20 := K19.size
            replace hat := K19.at_ hat (fun h => h)
            replace hown := K19.owns hown (fun _ _ h => h)
            have KK21 := KK16.trans K19
            refine RD.takesK (by kernel_rfl) [1, 2, 3, 5, 8, 9, 10] 6 rfl (by kernel_rfl) hcl hS ?_
            refine RQ.opd 68 rfl rfl rfl (Yld.plain (v := .slice A1 out.length c1) rfl (fun _ _ => (X_move rfl))) ?_
            refine RQ.opd 69 rfl rfl rfl (Yld.plain (v := .int .i64 (j : Nat)) rfl (fun _ _ => (X_move rfl))) ?_
            refine RQ.opd 70 rfl rfl rfl (Yld.plain (v := .slice A1 j c1) rfl (fun _ _ => (X_sliceTo Try.underlying27 Try.inf3 rfl rfl (by omega)))) ?_
            refine RQ.opd 72 rfl rfl rfl (Yld.plain (v := .int .i64 (k : Nat)) rfl (fun _ _ => (X_move rfl))) ?_
            refine RQ.opd 75 rfl rfl rfl (Yld.plain (v := .slice A1 out.length c1) rfl (fun _ _ => (X_move rfl))) ?_
            refine RQ.opd 76 rfl rfl rfl (Yld.plain (v := .int .i64 (j : Nat)) rfl (fun _ _ => (X_move rfl))) ?_
            refine RQ.opd 77 rfl rfl rfl (Yld.plain (v := .slice (if c1 = j then A1 else A1.map (·.add (j * 1))) (out.length - j) (c1 - j)) rfl (fun _ _ => (X_sliceFrom Try.underlying27 Try.inf3 rfl rfl (by omega)))) ?_
            refine RQ.nil ?_
            clear hcl hS
            intro hcl hS
            refine RD.two (i := 0) (k := 6) rfl (by kernel_rfl) hcl hS ?_ ?_
            · -- 0 comes up first
              have lt27 : ∀ g, Value.ownBlock (.slice A1 out.length c1) = some g → g < w17.heap.size := fun g hg => owns_lt hown g hg
              refine RD.lit0 (by kernel_rfl) hcl rfl rfl rfl ⟨rfl, rfl⟩ Try.underlying27 Try.inf3 (fun _ h => SK.next hS h) ?_
              clear hcl hS
              intro B22 w23 ge26 ho25 K24 hcl hS
              have ne_n1_B1 : ∀ g, Value.ownBlock (.slice (some ⟨B22, 0, none⟩) 0 0) = some g → g ≠ B1 := by intro g hg h; cases hg; have h2 := hat.lt; rw [← h] at h2; exact absurd ge26 (Nat.not_le_of_lt h2)
              have lo29 : ∀ g, Value.ownBlock (.slice (some ⟨B22, 0, none⟩) 0 0) = some g → w17.heap.size ≤ g := by intro g hg; cases hg; exact ge26
              have hge28 : ∀ g, Value.ownBlock (.slice (some ⟨B22, 0, none⟩) 0 0) = some g → w.heap.size ≤ g := fun g hg => Nat.le_trans KK21.size (lo29 g hg)
              have sz30 := K24.size
              replace hat := K24.at_ hat (fun h => h)
              replace hown := K24.owns hown (fun _ _ h => h)
              have KK31 := KK21.trans K24
              refine RD.two (i := 4) (k := 6) rfl (by kernel_rfl) hcl hS ?_ ?_
              · -- 4 comes up first
                refine RD.appendR (by kernel_rfl) hcl rfl rfl rfl ⟨rfl, rfl⟩ Try.underlying27 Try.inf3 rfl rfl ho25 rfl ((Row.of_owns hown).take j) (fun h => by have := owns_none hown h; omega) (by simp [ints_len]; omega) (owns_spot hown) (fun u hu => ints_one out u (List.mem_of_mem_take hu)) (by omega) (by omega) (fun _ h => SK.next' hS h (fun i hi hm => by have := lo29 i hm; omega)) ?_
                clear hcl hS
                intro v32 w33 ho35 K34 hl36 hcl hS
                have sz37 := K34.size
                have ne_n1_B1_ : ∀ g, Value.ownBlock (v32) = some g → g ≠ B1 := by
                  intro g hg
                  rcases hl36 with e | e
                  · exact ne_n1_B1 g (e ▸ hg)
                  · rw [e] at hg; cases hg; have := hat.lt; omega
                replace hat := K34.at_ hat (fun h => ne_n1_B1 B1 h rfl)
                replace ne_n1_B1 := ne_n1_B1_
                replace hown := K34.owns hown (fun g hg h => by have := lt27 g hg; have := lo29 g h; omega)
                have hge38 : ∀ g, Value.ownBlock (v32) = some g → w.heap.size ≤ g := by
                  intro g hg
                  rcases hl36 with e | e
                  · exact hge28 g (e ▸ hg)
                  · rw [e] at hg; cases hg; exact KK31.size
                have lo39 : ∀ g, Value.ownBlock (v32) = some g → w17.heap.size ≤ g := by
                  intro g hg
                  rcases hl36 with e | e
                  · exact lo29 g (e ▸ hg)
                  · rw [e] at hg; cases hg; omega
                have KK40 := KK31.trans_new K34 (fun i hi h => by have := hge28 i h; omega)
                refine RD.one (i := 6) rfl (by kernel_rfl) hcl hS ?_
                refine RD.lit1 (v := .int .i64 (k : Nat)) (by kernel_rfl) hcl rfl rfl rfl ⟨rfl, rfl⟩ Try.underlying27 Try.inf3 rfl (by decide) rfl rfl (fun _ h => SK.next hS h) ?_
                clear hcl hS
                intro B41 w42 ge45 hB44 K43 hcl hS
                have gb_B41 : w.heap.size ≤ B41 := Nat.le_trans KK40.size ge45
                have ne46 : B1 ≠ B41 := by have := hat.lt; omega
                have ne_v_B41 : ∀ g, Value.ownBlock (.slice A1 out.length c1) = some g → g ≠ B41 := fun g hg => by have := owns_lt hown g hg; omega
                have ne_n1_B41 : ∀ g, Value.ownBlock (v32) = some g → g ≠ B41 := fun g hg => by have := owns_lt ho35 g hg; omega
                have sz47 := K43.size
                replace hat := K43.at_ hat (fun h => h)
                replace hown := K43.owns hown (fun _ _ h => h)
                replace ho35 := K43.owns ho35 (fun _ _ h => h)
                have KK48 := KK40.trans K43
                refine RD.one (i := 7) rfl (by kernel_rfl) hcl hS ?_
                refine RD.append (by kernel_rfl) hcl rfl rfl rfl ⟨rfl, rfl⟩ Try.underlying27 Try.inf3 rfl rfl ho35 rfl rfl hB44.news rfl (by omega) (by omega) (fun _ h => SK.next' hS h (fun i hi hm => by have := lo39 i hm; omega)) ?_
                clear hcl hS
                intro v49 w50 ho52 K51 hl53 hcl hS
                have sz54 := K51.size
                have ne_n1_B1_ : ∀ g, Value.ownBlock (v49) = some g → g ≠ B1 := by
                  intro g hg
                  rcases hl53 with e | e
                  · exact ne_n1_B1 g (e ▸ hg)
                  · rw [e] at hg; cases hg; have := hat.lt; omega
                replace hat := K51.at_ hat (fun h => ne_n1_B1 B1 h rfl)
                replace ne_n1_B1 := ne_n1_B1_
                have ne_n1_B41_ : ∀ g, Value.ownBlock (v49) = some g → g ≠ B41 := by
                  intro g hg
                  rcases hl53 with e | e
                  · exact ne_n1_B41 g (e ▸ hg)
                  · rw [e] at hg; cases hg; have := hB44.lt; omega
                replace hB44 := K51.at_ hB44 (fun h => ne_n1_B41 B41 h rfl)
                replace ne_n1_B41 := ne_n1_B41_
                replace hown := K51.owns hown (fun g hg h => by have := lt27 g hg; have := lo39 g h; omega)
                have hge55 : ∀ g, Value.ownBlock (v49) = some g → w.heap.size ≤ g := by
                  intro g hg
                  rcases hl53 with e | e
                  · exact hge38 g (e ▸ hg)
                  · rw [e] at hg; cases hg; exact KK48.size
                have lo56 : ∀ g, Value.ownBlock (v49) = some g → w17.heap.size ≤ g := by
                  intro g hg
                  rcases hl53 with e | e
                  · exact lo39 g (e ▸ hg)
                  · rw [e] at hg; cases hg; omega
                have KK57 := KK48.trans_new K51 (fun i hi h => by have := hge38 i h; omega)
                refine RD.one (i := 11) rfl (by kernel_rfl) hcl hS ?_
                refine RD.appendR (by kernel_rfl) hcl rfl rfl rfl ⟨rfl, rfl⟩ Try.underlying27 Try.inf3 rfl rfl ho52 rfl ((Row.of_owns hown).dropc (k := j) (by rw [ints_len]; exact hcap)) (from_none (owns_none hown)) (by simp [ints_len]) (from_spot (owns_spot hown)) (fun u hu => ints_one out u (List.mem_of_mem_drop hu)) (by omega) (by omega) (fun _ h => SK.next' hS h (fun i hi hm => by have := lo56 i hm; omega)) ?_
                clear hcl hS
                intro v58 w59 ho61 K60 hl62 hcl hS
                have sz63 := K60.size
                have ne_n1_B1_ : ∀ g, Value.ownBlock (v58) = some g → g ≠ B1 := by
                  intro g hg
                  rcases hl62 with e | e
                  · exact ne_n1_B1 g (e ▸ hg)
                  · rw [e] at hg; cases hg; have := hat.lt; omega
                replace hat := K60.at_ hat (fun h => ne_n1_B1 B1 h rfl)
                replace ne_n1_B1 := ne_n1_B1_
                have ne_n1_B41_ : ∀ g, Value.ownBlock (v58) = some g → g ≠ B41 := by
                  intro g hg
                  rcases hl62 with e | e
                  · exact ne_n1_B41 g (e ▸ hg)
                  · rw [e] at hg; cases hg; have := hB44.lt; omega
                replace hB44 := K60.at_ hB44 (fun h => ne_n1_B41 B41 h rfl)
                replace ne_n1_B41 := ne_n1_B41_
                replace hown := K60.owns hown (fun g hg h => by have := lt27 g hg; have := lo56 g h; omega)
                have hge64 : ∀ g, Value.ownBlock (v58) = some g → w.heap.size ≤ g := by
                  intro g hg
                  rcases hl62 with e | e
                  · exact hge55 g (e ▸ hg)
                  · rw [e] at hg; cases hg; exact KK57.size
                have lo65 : ∀ g, Value.ownBlock (v58) = some g → w17.heap.size ≤ g := by
                  intro g hg
                  rcases hl62 with e | e
                  · exact lo56 g (e ▸ hg)
                  · rw [e] at hg; cases hg; omega
                have KK66 := KK57.trans_new K60 (fun i hi h => by have := hge55 i h; omega)
                refine RD.takesK (by kernel_rfl) [12] 0 rfl (by kernel_rfl) hcl hS ?_
                refine RQ.opd 7 rfl rfl rfl (Yld.plain (v := v58) rfl (fun _ _ => (X_assign rfl))) ?_
                refine RQ.nil ?_
                clear hcl hS
                intro hcl hS
                refine RD.done (by kernel_rfl) hcl hS ?_
                refine RW.region ?_
                refine RL.opd (v := .int .i64 (k : Nat)) 15 rfl rfl rfl (X_move rfl) ?_
                refine RL.opd (v := .int .i64 (((k : Nat) : Int) + 1)) 16 rfl rfl rfl (X_add rfl rfl (by omega) rfl) ?_
                refine RL.opd (v := .int .i64 (((k : Nat) : Int) + 1)) 8 rfl rfl rfl (X_assign rfl) ?_
                refine RL.nil ?_
                refine ⟨gk1 - 1, by omega, ⟨rfl, rfl, rfl⟩, ?_⟩
                have hsn := ridK_snoc l car tick k hlt (hid k hlt)
                rw [if_pos (by simpa using ridersB hcc), ← hout] at hsn
                have hst : Hw.Riders.scan (brd l) (brd l k) out out.length = j := by
                  rw [hsc]
                  refine scan_stop fun h => ?_
                  have hcj := and_f hcj
                  rcases hcj with h0 | h0
                  · exact absurd (of_decide_eq_false h0) (by omega)
                  · have h0 := of_decide_eq_false h0
                    obtain ⟨_, _, _, h4⟩ := hq h
                    rw [h4, brd_at l k hlt]; omega
                have hin : Hw.Riders.ins (brd l) out k = out.take j ++ (k : Int) :: out.drop j := by unfold Hw.Riders.ins; rw [hst]
                have hln : 0 + j + 1 + (out.length - j) = (ridK l car tick (k + 1)).length := by rw [hsn, hin]; simp; omega
                have h3 := owns_cast ho61 (ys := ints (ridK l car tick (k + 1))) hln (by rw [hsn, hin]; exact ints_ins out j k)
                obtain ⟨A2, c2, hv2, -, -, -⟩ := owns_slice h3
                subst hv2
                exact ⟨A2, c2, ridK l car tick (k + 1), k + 1, rfl, rfl, by omega, by omega, rfl, h3, KK66, hge64⟩
              · -- 6 comes up first
                refine RD.lit1 (v := .int .i64 (k : Nat)) (by kernel_rfl) hcl rfl rfl rfl ⟨rfl, rfl⟩ Try.underlying27 Try.inf3 rfl (by decide) rfl rfl (fun _ h => SK.next hS h) ?_
                clear hcl hS
                intro B67 w68 ge71 hB70 K69 hcl hS
                have gb_B67 : w.heap.size ≤ B67 := Nat.le_trans KK31.size ge71
                have ne72 : B1 ≠ B67 := by have := hat.lt; omega
                have ne_v_B67 : ∀ g, Value.ownBlock (.slice A1 out.length c1) = some g → g ≠ B67 := fun g hg => by have := owns_lt hown g hg; omega
                have ne_n1_B67 : ∀ g, Value.ownBlock (.slice (some ⟨B22, 0, none⟩) 0 0) = some g → g ≠ B67 := fun g hg => by have := owns_lt ho25 g hg; omega
                have sz73 := K69.size
                replace hat := K69.at_ hat (fun h => h)
                replace hown := K69.owns hown (fun _ _ h => h)
                replace ho25 := K69.owns ho25 (fun _ _ h => h)
                have KK74 := KK31.trans K69
                refine RD.one (i := 4) rfl (by kernel_rfl) hcl hS ?_
                refine RD.appendR (by kernel_rfl) hcl rfl rfl rfl ⟨rfl, rfl⟩ Try.underlying27 Try.inf3 rfl rfl ho25 rfl ((Row.of_owns hown).take j) (fun h => by have := owns_none hown h; omega) (by simp [ints_len]; omega) (owns_spot hown) (fun u hu => ints_one out u (List.mem_of_mem_take hu)) (by omega) (by omega) (fun _ h => SK.next' hS h (fun i hi hm => by have := lo29 i hm; omega)) ?_
                clear hcl hS
                intro v75 w76 ho78 K77 hl79 hcl hS
                have sz80 := K77.size
                have ne_n1_B1_ : ∀ g, Value.ownBlock (v75) = some g → g ≠ B1 := by
                  intro g hg
                  rcases hl79 with e | e
                  · exact ne_n1_B1 g (e ▸ hg)
                  · rw [e] at hg; cases hg; have := hat.lt; omega
                replace hat := K77.at_ hat (fun h => ne_n1_B1 B1 h rfl)
                replace ne_n1_B1 := ne_n1_B1_
                have ne_n1_B67_ : ∀ g, Value.ownBlock (v75) = some g → g ≠ B67 := by
                  intro g hg
                  rcases hl79 with e | e
                  · exact ne_n1_B67 g (e ▸ hg)
                  · rw [e] at hg; cases hg; have := hB70.lt; omega
                replace hB70 := K77.at_ hB70 (fun h => ne_n1_B67 B67 h rfl)
                replace ne_n1_B67 := ne_n1_B67_
                replace hown := K77.owns hown (fun g hg h => by have := lt27 g hg; have := lo29 g h; omega)
                have hge81 : ∀ g, Value.ownBlock (v75) = some g → w.heap.size ≤ g := by
                  intro g hg
                  rcases hl79 with e | e
                  · exact hge28 g (e ▸ hg)
                  · rw [e] at hg; cases hg; exact KK74.size
                have lo82 : ∀ g, Value.ownBlock (v75) = some g → w17.heap.size ≤ g := by
                  intro g hg
                  rcases hl79 with e | e
                  · exact lo29 g (e ▸ hg)
                  · rw [e] at hg; cases hg; omega
                have KK83 := KK74.trans_new K77 (fun i hi h => by have := hge28 i h; omega)
                refine RD.one (i := 7) rfl (by kernel_rfl) hcl hS ?_
                refine RD.append (by kernel_rfl) hcl rfl rfl rfl ⟨rfl, rfl⟩ Try.underlying27 Try.inf3 rfl rfl ho78 rfl rfl hB70.news rfl (by omega) (by omega) (fun _ h => SK.next' hS h (fun i hi hm => by have := lo82 i hm; omega)) ?_
                clear hcl hS
                intro v84 w85 ho87 K86 hl88 hcl hS
                have sz89 := K86.size
                have ne_n1_B1_ : ∀ g, Value.ownBlock (v84) = some g → g ≠ B1 := by
                  intro g hg
                  rcases hl88 with e | e
                  · exact ne_n1_B1 g (e ▸ hg)
                  · rw [e] at hg; cases hg; have := hat.lt; omega
                replace hat := K86.at_ hat (fun h => ne_n1_B1 B1 h rfl)
                replace ne_n1_B1 := ne_n1_B1_
                have ne_n1_B67_ : ∀ g, Value.ownBlock (v84) = some g → g ≠ B67 := by
                  intro g hg
                  rcases hl88 with e | e
                  · exact ne_n1_B67 g (e ▸ hg)
                  · rw [e] at hg; cases hg; have := hB70.lt; omega
                replace hB70 := K86.at_ hB70 (fun h => ne_n1_B67 B67 h rfl)
                replace ne_n1_B67 := ne_n1_B67_
                replace hown := K86.owns hown (fun g hg h => by have := lt27 g hg; have := lo82 g h; omega)
                have hge90 : ∀ g, Value.ownBlock (v84) = some g → w.heap.size ≤ g := by
                  intro g hg
                  rcases hl88 with e | e
                  · exact hge81 g (e ▸ hg)
                  · rw [e] at hg; cases hg; exact KK83.size
                have lo91 : ∀ g, Value.ownBlock (v84) = some g → w17.heap.size ≤ g := by
                  intro g hg
                  rcases hl88 with e | e
                  · exact lo82 g (e ▸ hg)
                  · rw [e] at hg; cases hg; omega
                have KK92 := KK83.trans_new K86 (fun i hi h => by have := hge81 i h; omega)
                refine RD.one (i := 11) rfl (by kernel_rfl) hcl hS ?_
                refine RD.appendR (by kernel_rfl) hcl rfl rfl rfl ⟨rfl, rfl⟩ Try.underlying27 Try.inf3 rfl rfl ho87 rfl ((Row.of_owns hown).dropc (k := j) (by rw [ints_len]; exact hcap)) (from_none (owns_none hown)) (by simp [ints_len]) (from_spot (owns_spot hown)) (fun u hu => ints_one out u (List.mem_of_mem_drop hu)) (by omega) (by omega) (fun _ h => SK.next' hS h (fun i hi hm => by have := lo91 i hm; omega)) ?_
                clear hcl hS
                intro v93 w94 ho96 K95 hl97 hcl hS
                have sz98 := K95.size
                have ne_n1_B1_ : ∀ g, Value.ownBlock (v93) = some g → g ≠ B1 := by
                  intro g hg
                  rcases hl97 with e | e
                  · exact ne_n1_B1 g (e ▸ hg)
                  · rw [e] at hg; cases hg; have := hat.lt; omega
                replace hat := K95.at_ hat (fun h => ne_n1_B1 B1 h rfl)
                replace ne_n1_B1 := ne_n1_B1_
                have ne_n1_B67_ : ∀ g, Value.ownBlock (v93) = some g → g ≠ B67 := by
                  intro g hg
                  rcases hl97 with e | e
                  · exact ne_n1_B67 g (e ▸ hg)
                  · rw [e] at hg; cases hg; have := hB70.lt; omega
                replace hB70 := K95.at_ hB70 (fun h => ne_n1_B67 B67 h rfl)
                replace ne_n1_B67 := ne_n1_B67_
                replace hown := K95.owns hown (fun g hg h => by have := lt27 g hg; have := lo91 g h; omega)
                have hge99 : ∀ g, Value.ownBlock (v93) = some g → w.heap.size ≤ g := by
                  intro g hg
                  rcases hl97 with e | e
                  · exact hge90 g (e ▸ hg)
                  · rw [e] at hg; cases hg; exact KK92.size
                have lo100 : ∀ g, Value.ownBlock (v93) = some g → w17.heap.size ≤ g := by
                  intro g hg
                  rcases hl97 with e | e
                  · exact lo91 g (e ▸ hg)
                  · rw [e] at hg; cases hg; omega
                have KK101 := KK92.trans_new K95 (fun i hi h => by have := hge90 i h; omega)
                refine RD.takesK (by kernel_rfl) [12] 0 rfl (by kernel_rfl) hcl hS ?_
                refine RQ.opd 7 rfl rfl rfl (Yld.plain (v := v93) rfl (fun _ _ => (X_assign rfl))) ?_
                refine RQ.nil ?_
                clear hcl hS
                intro hcl hS
                refine RD.done (by kernel_rfl) hcl hS ?_
                refine RW.region ?_
                refine RL.opd (v := .int .i64 (k : Nat)) 15 rfl rfl rfl (X_move rfl) ?_
                refine RL.opd (v := .int .i64 (((k : Nat) : Int) + 1)) 16 rfl rfl rfl (X_add rfl rfl (by omega) rfl) ?_
                refine RL.opd (v := .int .i64 (((k : Nat) : Int) + 1)) 8 rfl rfl rfl (X_assign rfl) ?_
                refine RL.nil ?_
                refine ⟨gk1 - 1, by omega, ⟨rfl, rfl, rfl⟩, ?_⟩
                have hsn := ridK_snoc l car tick k hlt (hid k hlt)
                rw [if_pos (by simpa using ridersB hcc), ← hout] at hsn
                have hst : Hw.Riders.scan (brd l) (brd l k) out out.length = j := by
                  rw [hsc]
                  refine scan_stop fun h => ?_
                  have hcj := and_f hcj
                  rcases hcj with h0 | h0
                  · exact absurd (of_decide_eq_false h0) (by omega)
                  · have h0 := of_decide_eq_false h0
                    obtain ⟨_, _, _, h4⟩ := hq h
                    rw [h4, brd_at l k hlt]; omega
                have hin : Hw.Riders.ins (brd l) out k = out.take j ++ (k : Int) :: out.drop j := by unfold Hw.Riders.ins; rw [hst]
                have hln : 0 + j + 1 + (out.length - j) = (ridK l car tick (k + 1)).length := by rw [hsn, hin]; simp; omega
                have h3 := owns_cast ho96 (ys := ints (ridK l car tick (k + 1))) hln (by rw [hsn, hin]; exact ints_ins out j k)
                obtain ⟨A2, c2, hv2, -, -, -⟩ := owns_slice h3
                subst hv2
                exact ⟨A2, c2, ridK l car tick (k + 1), k + 1, rfl, rfl, by omega, by omega, rfl, h3, KK101, hge99⟩
            · -- 6 comes up first
              refine RD.lit1 (v := .int .i64 (k : Nat)) (by kernel_rfl) hcl rfl rfl rfl ⟨rfl, rfl⟩ Try.underlying27 Try.inf3 rfl (by decide) rfl rfl (fun _ h => SK.next hS h) ?_
              clear hcl hS
              intro B102 w103 ge106 hB105 K104 hcl hS
              have gb_B102 : w.heap.size ≤ B102 := Nat.le_trans KK21.size ge106
              have ne107 : B1 ≠ B102 := by have := hat.lt; omega
              have ne_v_B102 : ∀ g, Value.ownBlock (.slice A1 out.length c1) = some g → g ≠ B102 := fun g hg => by have := owns_lt hown g hg; omega
              have sz108 := K104.size
              replace hat := K104.at_ hat (fun h => h)
              replace hown := K104.owns hown (fun _ _ h => h)
              have KK109 := KK21.trans K104
              refine RD.one (i := 0) rfl (by kernel_rfl) hcl hS ?_
              have lt115 : ∀ g, Value.ownBlock (.slice A1 out.length c1) = some g → g < w103.heap.size := fun g hg => owns_lt hown g hg
              refine RD.lit0 (by kernel_rfl) hcl rfl rfl rfl ⟨rfl, rfl⟩ Try.underlying27 Try.inf3 (fun _ h => SK.next hS h) ?_
              clear hcl hS
              intro B110 w111 ge114 ho113 K112 hcl hS
              have ne_n1_B1 : ∀ g, Value.ownBlock (.slice (some ⟨B110, 0, none⟩) 0 0) = some g → g ≠ B1 := by intro g hg h; cases hg; have h2 := hat.lt; rw [← h] at h2; exact absurd ge114 (Nat.not_le_of_lt h2)
              have ne_n1_B102 : ∀ g, Value.ownBlock (.slice (some ⟨B110, 0, none⟩) 0 0) = some g → g ≠ B102 := by intro g hg h; cases hg; have h2 := hB105.lt; rw [← h] at h2; exact absurd ge114 (Nat.not_le_of_lt h2)
              have lo117 : ∀ g, Value.ownBlock (.slice (some ⟨B110, 0, none⟩) 0 0) = some g → w103.heap.size ≤ g := by intro g hg; cases hg; exact ge114
              have hge116 : ∀ g, Value.ownBlock (.slice (some ⟨B110, 0, none⟩) 0 0) = some g → w.heap.size ≤ g := fun g hg => Nat.le_trans KK109.size (lo117 g hg)
              have sz118 := K112.size
              replace hat := K112.at_ hat (fun h => h)
              replace hB105 := K112.at_ hB105 (fun h => h)
              replace hown := K112.owns hown (fun _ _ h => h)
              have KK119 := KK109.trans K112
              refine RD.one (i := 4) rfl (by kernel_rfl) hcl hS ?_
              refine RD.appendR (by kernel_rfl) hcl rfl rfl rfl ⟨rfl, rfl⟩ Try.underlying27 Try.inf3 rfl rfl ho113 rfl ((Row.of_owns hown).take j) (fun h => by have := owns_none hown h; omega) (by simp [ints_len]; omega) (owns_spot hown) (fun u hu => ints_one out u (List.mem_of_mem_take hu)) (by omega) (by omega) (fun _ h => SK.next' hS h (fun i hi hm => by have := lo117 i hm; omega)) ?_
              clear hcl hS
              intro v120 w121 ho123 K122 hl124 hcl hS
              have sz125 := K122.size
              have ne_n1_B1_ : ∀ g, Value.ownBlock (v120) = some g → g ≠ B1 := by
                intro g hg
                rcases hl124 with e | e
                · exact ne_n1_B1 g (e ▸ hg)
                · rw [e] at hg; cases hg; have := hat.lt; omega
              replace hat := K122.at_ hat (fun h => ne_n1_B1 B1 h rfl)
              replace ne_n1_B1 := ne_n1_B1_
              have ne_n1_B102_ : ∀ g, Value.ownBlock (v120) = some g → g ≠ B102 := by
                intro g hg
                rcases hl124 with e | e
                · exact ne_n1_B102 g (e ▸ hg)
                · rw [e] at hg; cases hg; have := hB105.lt; omega
              replace hB105 := K122.at_ hB105 (fun h => ne_n1_B102 B102 h rfl)
              replace ne_n1_B102 := ne_n1_B102_
              replace hown := K122.owns hown (fun g hg h => by have := lt115 g hg; have := lo117 g h; omega)
              have hge126 : ∀ g, Value.ownBlock (v120) = some g → w.heap.size ≤ g := by
                intro g hg
                rcases hl124 with e | e
                · exact hge116 g (e ▸ hg)
                · rw [e] at hg; cases hg; exact KK119.size
              have lo127 : ∀ g, Value.ownBlock (v120) = some g → w103.heap.size ≤ g := by
                intro g hg
                rcases hl124 with e | e
                · exact lo117 g (e ▸ hg)
                · rw [e] at hg; cases hg; omega
              have KK128 := KK119.trans_new K122 (fun i hi h => by have := hge116 i h; omega)
              refine RD.one (i := 7) rfl (by kernel_rfl) hcl hS ?_
              refine RD.append (by kernel_rfl) hcl rfl rfl rfl ⟨rfl, rfl⟩ Try.underlying27 Try.inf3 rfl rfl ho123 rfl rfl hB105.news rfl (by omega) (by omega) (fun _ h => SK.next' hS h (fun i hi hm => by have := lo127 i hm; omega)) ?_
              clear hcl hS
              intro v129 w130 ho132 K131 hl133 hcl hS
              have sz134 := K131.size
              have ne_n1_B1_ : ∀ g, Value.ownBlock (v129) = some g → g ≠ B1 := by
                intro g hg
                rcases hl133 with e | e
                · exact ne_n1_B1 g (e ▸ hg)
                · rw [e] at hg; cases hg; have := hat.lt; omega
              replace hat := K131.at_ hat (fun h => ne_n1_B1 B1 h rfl)
              replace ne_n1_B1 := ne_n1_B1_
              have ne_n1_B102_ : ∀ g, Value.ownBlock (v129) = some g → g ≠ B102 := by
                intro g hg
                rcases hl133 with e | e
                · exact ne_n1_B102 g (e ▸ hg)
                · rw [e] at hg; cases hg; have := hB105.lt; omega
              replace hB105 := K131.at_ hB105 (fun h => ne_n1_B102 B102 h rfl)
              replace ne_n1_B102 := ne_n1_B102_
              replace hown := K131.owns hown (fun g hg h => by have := lt115 g hg; have := lo127 g h; omega)
              have hge135 : ∀ g, Value.ownBlock (v129) = some g → w.heap.size ≤ g := by
                intro g hg
                rcases hl133 with e | e
                · exact hge126 g (e ▸ hg)
                · rw [e] at hg; cases hg; exact KK128.size
              have lo136 : ∀ g, Value.ownBlock (v129) = some g → w103.heap.size ≤ g := by
                intro g hg
                rcases hl133 with e | e
                · exact lo127 g (e ▸ hg)
                · rw [e] at hg; cases hg; omega
              have KK137 := KK128.trans_new K131 (fun i hi h => by have := hge126 i h; omega)
              refine RD.one (i := 11) rfl (by kernel_rfl) hcl hS ?_
              refine RD.appendR (by kernel_rfl) hcl rfl rfl rfl ⟨rfl, rfl⟩ Try.underlying27 Try.inf3 rfl rfl ho132 rfl ((Row.of_owns hown).dropc (k := j) (by rw [ints_len]; exact hcap)) (from_none (owns_none hown)) (by simp [ints_len]) (from_spot (owns_spot hown)) (fun u hu => ints_one out u (List.mem_of_mem_drop hu)) (by omega) (by omega) (fun _ h => SK.next' hS h (fun i hi hm => by have := lo136 i hm; omega)) ?_
              clear hcl hS
              intro v138 w139 ho141 K140 hl142 hcl hS
              have sz143 := K140.size
              have ne_n1_B1_ : ∀ g, Value.ownBlock (v138) = some g → g ≠ B1 := by
                intro g hg
                rcases hl142 with e | e
                · exact ne_n1_B1 g (e ▸ hg)
                · rw [e] at hg; cases hg; have := hat.lt; omega
              replace hat := K140.at_ hat (fun h => ne_n1_B1 B1 h rfl)
              replace ne_n1_B1 := ne_n1_B1_
              have ne_n1_B102_ : ∀ g, Value.ownBlock (v138) = some g → g ≠ B102 := by
                intro g hg
                rcases hl142 with e | e
                · exact ne_n1_B102 g (e ▸ hg)
                · rw [e] at hg; cases hg; have := hB105.lt; omega
              replace hB105 := K140.at_ hB105 (fun h => ne_n1_B102 B102 h rfl)
              replace ne_n1_B102 := ne_n1_B102_
              replace hown := K140.owns hown (fun g hg h => by have := lt115 g hg; have := lo136 g h; omega)
              have hge144 : ∀ g, Value.ownBlock (v138) = some g → w.heap.size ≤ g := by
                intro g hg
                rcases hl142 with e | e
                · exact hge135 g (e ▸ hg)
                · rw [e] at hg; cases hg; exact KK137.size
              have lo145 : ∀ g, Value.ownBlock (v138) = some g → w103.heap.size ≤ g := by
                intro g hg
                rcases hl142 with e | e
                · exact lo136 g (e ▸ hg)
                · rw [e] at hg; cases hg; omega
              have KK146 := KK137.trans_new K140 (fun i hi h => by have := hge135 i h; omega)
              refine RD.takesK (by kernel_rfl) [12] 0 rfl (by kernel_rfl) hcl hS ?_
              refine RQ.opd 7 rfl rfl rfl (Yld.plain (v := v138) rfl (fun _ _ => (X_assign rfl))) ?_
              refine RQ.nil ?_
              clear hcl hS
              intro hcl hS
              refine RD.done (by kernel_rfl) hcl hS ?_
              refine RW.region ?_
              refine RL.opd (v := .int .i64 (k : Nat)) 15 rfl rfl rfl (X_move rfl) ?_
              refine RL.opd (v := .int .i64 (((k : Nat) : Int) + 1)) 16 rfl rfl rfl (X_add rfl rfl (by omega) rfl) ?_
              refine RL.opd (v := .int .i64 (((k : Nat) : Int) + 1)) 8 rfl rfl rfl (X_assign rfl) ?_
              refine RL.nil ?_
              refine ⟨gk1 - 1, by omega, ⟨rfl, rfl, rfl⟩, ?_⟩
              have hsn := ridK_snoc l car tick k hlt (hid k hlt)
              rw [if_pos (by simpa using ridersB hcc), ← hout] at hsn
              have hst : Hw.Riders.scan (brd l) (brd l k) out out.length = j := by
                rw [hsc]
                refine scan_stop fun h => ?_
                have hcj := and_f hcj
                rcases hcj with h0 | h0
                · exact absurd (of_decide_eq_false h0) (by omega)
                · have h0 := of_decide_eq_false h0
                  obtain ⟨_, _, _, h4⟩ := hq h
                  rw [h4, brd_at l k hlt]; omega
              have hin : Hw.Riders.ins (brd l) out k = out.take j ++ (k : Int) :: out.drop j := by unfold Hw.Riders.ins; rw [hst]
              have hln : 0 + j + 1 + (out.length - j) = (ridK l car tick (k + 1)).length := by rw [hsn, hin]; simp; omega
              have h3 := owns_cast ho141 (ys := ints (ridK l car tick (k + 1))) hln (by rw [hsn, hin]; exact ints_ins out j k)
              obtain ⟨A2, c2, hv2, -, -, -⟩ := owns_slice h3
              subst hv2
              exact ⟨A2, c2, ridK l car tick (k + 1), k + 1, rfl, rfl, by omega, by omega, rfl, h3, KK146, hge144⟩
    · -- slot 14: False
      refine RW.exit ?_
      refine RW.seq ?_
      refine RW.region ?_
      refine RL.opd (v := .slice A1 out.length c1) 79 rfl rfl rfl (X_move rfl) ?_
      refine RL.opd (v := .slice A1 out.length c1) 6 rfl rfl rfl (X_assign rfl) ?_
      refine RL.nil ?_
      refine RW.ret ?_
      refine ret1 (.inl rfl) rfl ?_
      obtain rfl : k = l.length := by have := of_decide_eq_false hlt; omega
      subst hout
      exact ⟨_, rfl, hown, hK, hge⟩

end Go.Proofs
