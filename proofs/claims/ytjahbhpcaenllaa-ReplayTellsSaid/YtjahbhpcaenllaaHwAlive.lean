/- The example that lives. -/
import Derived.Test.YtjahbhpcaenllaaHwTypes
import Derived.Test.YtjahbhpcaenllaaHwModel
import Derived.Test.YtjahbhpcaenllaaHwStr
namespace Hw.Sym
end Hw.Sym
namespace Go.Proofs
open Go.RowKit Go.Hw Hw.Sym
set_option maxRecDepth 10000 in
theorem plain_any (d : Nat) (hd : d < 10) (w : World) : Calls Try.prog 118 #[.int .u64 (d : Nat)] w fun e w' => e = .returned (str [(UInt8.ofNat (48 + d))]) ∧ Keeps none_ w w' := by
  refine calls_of_RW Try.func118 rfl (Nat.le_of_ble_eq_true rfl) ?_
  refine RW.seq ?_
  refine RW.region ?_
  refine RL.opd 2 rfl rfl rfl (X_assign rfl) ?_
  refine RL.nil ?_
  refine RW.seq ?_
  refine RW.region ?_
  refine RL.opd (v := .slice none 0 0) 3 rfl rfl rfl (X_assign rfl) ?_
  refine RL.nil ?_
  refine RW.seq ?_
  refine RW.seq ?_
  refine RW.region ?_
  refine RL.opd (v := .bool true) 4 rfl rfl rfl (X_assign rfl) ?_
  refine RL.nil ?_
  refine RW.block ?_
  refine RW.loop (fun gk φ wr => (True) ∧ ∃ (dd : Int) (v : Value) (bb : Bool), φ 0 = .int .u64 dd ∧ φ 3 = v ∧ φ 4 = .bool bb ∧ ((bb = true ∧ gk = 1 ∧ dd = ((d : Nat) : Int) ∧ v = .slice none 0 0) ∨ (bb = false ∧ gk = 0 ∧ ∃ B, v = .slice (some ⟨B, 0, none⟩) 1 1 ∧ At wr B (.cells #[.int .u8 ((48 + d : Nat) : Int)] 5))) ∧ Keeps none_ w wr) 1 ?_ ?_
  · exact ⟨trivial, _, _, true, rfl, rfl, rfl, .inl ⟨rfl, rfl, rfl, rfl⟩, Keeps.refl _ _⟩
  · rintro gk1 φ wr1 ⟨-, dd, v, bb, h_0, h_3, h_4, hinv, hK⟩
    obtain ⟨φ0, rfl⟩ : ∃ φ0, φ = upd (upd (upd φ0 0 (.int .u64 dd)) 3 (v)) 4 (.bool bb) := ⟨φ, by rw [upd_of h_0, upd_of h_3, upd_of h_4]⟩
    clear h_0 h_3 h_4
    have hsz := hK.size
    refine RW.seq ?_
    refine RW.seq ?_
    refine RW.region ?_
    refine RL.opd (v := .bool bb) 5 rfl rfl rfl (X_move rfl) ?_
    refine RL.nil ?_
    refine RW.cond rfl (fun hb => ?_) (fun hb => ?_)
    · -- slot 5: True
      refine RW.skip ?_
      refine RW.seq ?_
      refine RW.block ?_
      refine RW.seq ?_
      obtain ⟨-, hg1, rfl, rfl⟩ : bb = true ∧ gk1 = 1 ∧ dd = ((d : Nat) : Int) ∧ v = .slice none 0 0 := by
        rcases hinv with h | ⟨h0, _⟩
        · exact h
        · rw [hb] at h0; cases h0
      refine RW.region ?_
      refine RL.opd (v := .int .u64 (d : Nat)) 8 rfl rfl rfl (X_move rfl) ?_
      refine RL.opd 9 rfl rfl rfl (X_remU rfl rfl (by decide) (dig_mod hd)) ?_
      refine RL.opd 10 rfl rfl rfl (X_addU rfl rfl (by omega) (show (48 : Int) + (d : Nat) = ((48 + d : Nat) : Int) by omega)) ?_
      refine RL.opd 11 rfl rfl rfl (X_convB Try.underlying123 Try.underlying5 rfl (by omega)) ?_
      refine RL.lit1 rfl rfl ⟨rfl, rfl⟩ Try.underlying240 Try.inf5 rfl (by decide) rfl rfl (fun B1 w2 ge5 hB4 K3 => ?_)
      have gb_B1 : w.heap.size ≤ B1 := Nat.le_trans hK.size ge5
      have sz6 := K3.size
      have KK7 := hK.trans K3
      refine RL.opd (v := .slice none 0 0) 13 rfl rfl rfl (X_move rfl) ?_
      refine RL.opd (v := .slice (some ⟨B1, 0, none⟩) 1 1) 14 rfl rfl rfl (X_append0 Try.underlying240 Try.inf5 rfl rfl (Nat.le_refl _)) ?_
      refine RL.opd (v := .slice (some ⟨B1, 0, none⟩) 1 1) 3 rfl rfl rfl (X_assign rfl) ?_
      refine RL.nil ?_
      refine RW.region ?_
      refine RL.opd (v := .int .u64 (d : Nat)) 15 rfl rfl rfl (X_move rfl) ?_
      refine RL.opd 16 rfl rfl rfl (X_quoU rfl rfl (by decide) (by rw [dig_div hd]; omega) (dig_div hd)) ?_
      refine RL.opd 0 rfl rfl rfl (X_assign rfl) ?_
      refine RL.nil ?_
      refine RW.region ?_
      refine RL.opd 6 rfl rfl rfl (X_move rfl) ?_
      refine RL.opd (v := .bool (decide ((0 : Int) < 0))) 7 rfl rfl rfl (X_gtr rfl rfl) ?_
      refine RL.opd (v := .bool (decide ((0 : Int) < 0))) 4 rfl rfl rfl (X_assign rfl) ?_
      refine RL.nil ?_
      refine ⟨0, by omega, trivial, ?_⟩
      exact ⟨0, _, false, rfl, rfl, rfl, .inr ⟨rfl, rfl, B1, rfl, hB4⟩, KK7⟩
    · -- slot 5: False
      refine RW.exit ?_
      refine RW.seq ?_
      obtain ⟨-, -, B, rfl, hB⟩ : bb = false ∧ gk1 = 0 ∧ ∃ B, v = .slice (some ⟨B, 0, none⟩) 1 1 ∧ At wr1 B (.cells #[.int .u8 ((48 + d : Nat) : Int)] 5) := by
        rcases hinv with ⟨h0, _⟩ | h
        · rw [hb] at h0; cases h0
        · exact h
      refine RW.region ?_
      refine RL.opd (v := .slice (some ⟨B, 0, none⟩) 1 1) 17 rfl rfl rfl (X_move rfl) ?_
      refine RL.opd 18 rfl rfl rfl (X_bytesStr (a := [(UInt8.ofNat (48 + d))]) Try.underlying240 Try.underlying5 Try.underlying9 rfl (one_byte hB hd)) ?_
      refine RL.opd 2 rfl rfl rfl (X_assign rfl) ?_
      refine RL.nil ?_
      refine RW.ret ?_
      exact ret1 (.inl rfl) rfl ⟨rfl, hK⟩

set_option maxRecDepth 10000 in
theorem text_any (d : Nat) (hd : d < 10) (w : World) : Calls Try.prog 98 #[.int .i64 (d : Nat)] w fun e w' => e = .returned (str [(UInt8.ofNat (48 + d))]) ∧ Keeps none_ w w' := by
  refine calls_of_RW Try.func98 rfl (Nat.le_of_ble_eq_true rfl) ?_
  refine RW.seq ?_
  refine RW.region ?_
  refine RL.opd 2 rfl rfl rfl (X_assign rfl) ?_
  refine RL.nil ?_
  refine RW.seq ?_
  refine RW.seq ?_
  refine RW.region ?_
  refine RL.opd (v := .int .i64 (d : Nat)) 3 rfl rfl rfl (X_move rfl) ?_
  refine RL.opd (v := .bool (decide (((d : Nat) : Int) < 0))) 4 rfl rfl rfl (X_lss rfl rfl) ?_
  refine RL.nil ?_
  refine RW.cond_false (show Value.bool (decide (((d : Nat) : Int) < 0)) = .bool false by rw [decide_eq_false (by omega)]) ?_
  refine RW.skip ?_
  refine RW.seq ?_
  refine RW.region ?_
  refine RL.opd (v := .int .i64 (d : Nat)) 9 rfl rfl rfl (X_move rfl) ?_
  refine RL.opd 10 rfl rfl rfl (X_convU Try.underlying2 Try.underlying123 rfl (by omega)) ?_
  refine RL.call rfl (X_callF Try.en118 rfl) ⟨rfl, rfl⟩ (plain_any d hd w) ?_
  rintro e2 w1 ⟨rfl, hK1⟩
  refine ⟨_, rfl, ?_⟩
  have sz3 := hK1.size
  refine RL.opd (v := str [(UInt8.ofNat (48 + d))]) 2 rfl rfl rfl (X_assign rfl) ?_
  refine RL.nil ?_
  refine RW.ret ?_
  exact ret1 (.inl rfl) rfl ⟨rfl, hK1⟩

set_option maxRecDepth 10000 in
theorem of_any (d : Nat) (hd : d < 10) (w : World) : Calls Try.prog 71 #[.int .i64 (d : Nat)] w fun e w' => e = .returned (str [(UInt8.ofNat (48 + d))]) ∧ Keeps none_ w w' := by
  refine calls_of_RW Try.func71 rfl (Nat.le_of_ble_eq_true rfl) ?_
  refine RW.seq ?_
  refine RW.region ?_
  refine RL.opd 2 rfl rfl rfl (X_assign rfl) ?_
  refine RL.nil ?_
  refine RW.seq ?_
  refine RW.region ?_
  refine RL.opd (v := .int .i64 (d : Nat)) 3 rfl rfl rfl (X_move rfl) ?_
  refine RL.call rfl (X_callF Try.en98 rfl) ⟨rfl, rfl⟩ (text_any d hd w) ?_
  rintro e2 w1 ⟨rfl, hK1⟩
  refine ⟨_, rfl, ?_⟩
  have sz3 := hK1.size
  refine RL.opd (v := str [(UInt8.ofNat (48 + d))]) 2 rfl rfl rfl (X_assign rfl) ?_
  refine RL.nil ?_
  refine RW.ret ?_
  exact ret1 (.inl rfl) rfl ⟨rfl, hK1⟩

set_option maxRecDepth 10000 in
theorem tripAt_ex (w : World) : Calls Try.prog 72 #[.agg #[.int .i64 0, .int .i64 5, .int .i64 1, .int .i64 2, .int .i64 (-1), .int .i64 (-1), .int .i64 (-1)]] w fun e w' => e = .returned (.int .i64 0) ∧ Keeps none_ w w' := by
  refine calls_of_RW Try.func72 rfl (Nat.le_of_ble_eq_true rfl) ?_
  refine RW.seq ?_
  refine RW.region ?_
  refine RL.box (v := .agg #[.int .i64 0, .int .i64 5, .int .i64 1, .int .i64 2, .int .i64 (-1), .int .i64 (-1), .int .i64 (-1)]) rfl rfl rfl ⟨rfl, rfl⟩ (fun B1 w2 ge5 hB4 K3 => ?_)
  have gb_B1 : w.heap.size ≤ B1 := ge5
  have sz6 := K3.size
  refine RL.opd (v := .int .i64 0) 2 rfl rfl rfl (X_assign rfl) ?_
  refine RL.nil ?_
  refine RW.seq ?_
  refine RW.block ?_
  refine RW.seq ?_
  refine RW.region ?_
  refine RL.opd (v := .pointer (some ⟨B1, 6, none⟩)) 4 rfl rfl rfl (X_fieldAddr Try.underlying29 rfl Try.inf3 rfl rfl) ?_
  refine RL.opd (v := .int .i64 (-1)) 5 rfl rfl rfl (X_load Try.underlying3 rfl rfl (hB4.cell _)) ?_
  refine RL.opd (v := .bool (decide ((0 : Int) ≤ (-1)))) 6 rfl rfl rfl (X_geq rfl rfl) ?_
  refine RL.opd (v := .bool (decide ((0 : Int) ≤ (-1)))) 3 rfl rfl rfl (X_assign rfl) ?_
  refine RL.nil ?_
  refine RW.cond_false rfl ?_
  refine RW.seq ?_
  refine RW.region ?_
  refine RL.opd (v := .pointer (some ⟨B1, 5, none⟩)) 8 rfl rfl rfl (X_fieldAddr Try.underlying29 rfl Try.inf3 rfl rfl) ?_
  refine RL.opd (v := .int .i64 (-1)) 9 rfl rfl rfl (X_load Try.underlying3 rfl rfl (hB4.cell _)) ?_
  refine RL.opd (v := .bool (decide ((0 : Int) ≤ (-1)))) 10 rfl rfl rfl (X_geq rfl rfl) ?_
  refine RL.opd (v := .bool (decide ((0 : Int) ≤ (-1)))) 7 rfl rfl rfl (X_assign rfl) ?_
  refine RL.nil ?_
  refine RW.cond_false rfl ?_
  refine RW.skip ?_
  refine RW.seq ?_
  refine RW.region ?_
  refine RL.opd (v := .int .i64 0) 2 rfl rfl rfl (X_assign rfl) ?_
  refine RL.nil ?_
  refine RW.ret ?_
  exact ret1 (.inl rfl) rfl ⟨rfl, K3⟩

set_option maxRecDepth 10000 in
theorem story_ex (B : Nat) (w : World) (hB : At w B (.cells #[.int .i64 0, .int .i64 5, .int .i64 1, .int .i64 2, .int .i64 (-1), .int .i64 (-1), .int .i64 (-1)] 29)) : Calls Try.prog 41 #[.agg #[.slice (some ⟨B, 0, none⟩) 1 1, .slice none 0 0, .int .i64 0], .int .i64 0] w fun e w' => e = .returned (str ((((((([UInt8.ofNat (48 + 0)] ++ [32, 99, 97, 109, 101, 32, 97, 116, 32]) ++ [UInt8.ofNat (48 + 5)]) ++ [32, 102, 114, 111, 109, 32]) ++ [UInt8.ofNat (48 + 1)]) ++ [32, 116, 111, 32]) ++ [UInt8.ofNat (48 + 2)]) ++ [44, 32, 119, 97, 105, 116, 115])) ∧ Keeps none_ w w' := by
  refine calls_of_RW Try.func41 rfl (Nat.le_of_ble_eq_true rfl) ?_
  refine RW.seq ?_
  refine RW.region ?_
  refine RL.box (v := .agg #[.slice (some ⟨B, 0, none⟩) 1 1, .slice none 0 0, .int .i64 0]) rfl rfl rfl ⟨rfl, rfl⟩ (fun B1 w2 ge5 hB4 K3 => ?_)
  have gb_B1 : w.heap.size ≤ B1 := ge5
  have sz6 := K3.size
  refine RL.opd 4 rfl rfl rfl (X_assign rfl) ?_
  refine RL.nil ?_
  refine RW.seq ?_
  refine RW.seq ?_
  refine RW.region ?_
  refine RL.opd (v := .int .i64 0) 7 rfl rfl rfl (X_move rfl) ?_
  refine RL.opd (v := .bool (decide ((0 : Int) < 0))) 8 rfl rfl rfl (X_lss rfl rfl) ?_
  refine RL.opd (v := .bool (decide ((0 : Int) < 0))) 9 rfl rfl rfl (X_move rfl) ?_
  refine RL.gopd (v := .int .i64 0) 10 rfl rfl rfl rfl (fun hg => (X_move rfl)) rfl rfl ?_
  refine RL.gopd (v := .pointer (some ⟨B1, 0, none⟩)) 11 rfl rfl rfl rfl (fun hg => (X_fieldAddr Try.underlying25 rfl Try.inf22 rfl rfl)) rfl rfl ?_
  refine RL.gopd (v := .slice (some ⟨B, 0, none⟩) 1 1) 12 rfl rfl rfl rfl (fun hg => (X_load Try.underlying22 rfl (gb_on hg) (hB4.cell _))) rfl rfl ?_
  refine RL.gopd (v := .int .i64 (1 : Nat)) 13 rfl rfl rfl rfl (fun hg => (X_len Try.underlying22 (gb_on hg))) rfl rfl ?_
  refine RL.gopd (v := .bool (decide (((1 : Nat) : Int) ≤ 0))) 14 rfl rfl rfl rfl (fun hg => (X_geq (gb_on hg) (gb_on hg))) rfl rfl ?_
  refine RL.opd (v := .bool (bif (decide ((0 : Int) < 0)) then true else (decide (((1 : Nat) : Int) ≤ 0)))) 15 rfl rfl rfl (X_pickB rfl (fun _ => rfl) (fun h => gbF h)) ?_
  refine RL.nil ?_
  refine RW.cond_false rfl ?_
  refine RW.skip ?_
  refine RW.seq ?_
  refine RW.region ?_
  refine RL.opd (v := .pointer (some ⟨B1, 0, none⟩)) 16 rfl rfl rfl (X_fieldAddr Try.underlying25 rfl Try.inf22 rfl rfl) ?_
  refine RL.opd (v := .slice (some ⟨B, 0, none⟩) 1 1) 17 rfl rfl rfl (X_load Try.underlying22 rfl rfl (hB4.cell _)) ?_
  refine RL.opd (v := .int .i64 0) 18 rfl rfl rfl (X_move rfl) ?_
  refine RL.opd (v := .pointer (some ⟨B, 0 + 0 * 7, none⟩)) 19 rfl rfl rfl (X_indexAddr Try.underlying22 Try.inf29 rfl (show Value.int .i64 0 = .int .i64 ((0 : Nat) : Int) from rfl) (Nat.lt_succ_self 0)) ?_
  refine RL.opd (v := .agg #[.int .i64 0, .int .i64 5, .int .i64 1, .int .i64 2, .int .i64 (-1), .int .i64 (-1), .int .i64 (-1)]) 20 rfl rfl rfl (X_loadAgg [.int .i64 0, .int .i64 5, .int .i64 1, .int .i64 2, .int .i64 (-1), .int .i64 (-1), .int .i64 (-1)] Try.underlying29 rfl Try.inf29 rfl (At.cells0 (K3.at_ hB (fun h => h)))) ?_
  refine RL.alloc rfl rfl Try.inf29 ⟨rfl, rfl⟩ (fun B7 w8 ge11 hB10 K9 => ?_)
  have gb_B7 : w.heap.size ≤ B7 := Nat.le_trans K3.size ge11
  have ne12 : B1 ≠ B7 := by have := hB4.lt; omega
  have sz13 := K9.size
  replace hB4 := K9.at_ hB4 (fun h => h)
  have KK14 := K3.trans K9
  refine RL.storeAt (v := .agg #[.int .i64 0, .int .i64 5, .int .i64 1, .int .i64 2, .int .i64 (-1), .int .i64 (-1), .int .i64 (-1)]) rfl rfl rfl Try.inf29 rfl rfl rfl rfl hB10 (Nat.le_of_ble_eq_true rfl) (fun w15 hB17 K16 => ?_)
  try (rw [splice_all rfl] at hB17)
  replace hB4 := K16.at_ hB4 (by intro h; exact absurd h (by omega))
  have KK18 := KK14.trans_new K16 (fun i hi h => absurd h (by omega))
  refine RL.nil ?_
  refine RW.seq ?_
  refine RW.drawK Try.mixed (fun w19 hw20 hcl hS => ?_)
  have K21 : Keeps none_ w15 w19 := by rw [hw20]; exact Keeps.drew _ _
  clear hw20
  have sz22 := K21.size
  replace hB4 := K21.at_ hB4 (fun h => h)
  replace hB17 := K21.at_ hB17 (fun h => h)
  have KK23 := KK18.trans K21
  refine RD.takesK (by kernel_rfl) [0, 1, 4, 5, 9, 10, 14, 15] 11 rfl (by kernel_rfl) hcl hS ?_
  refine RQ.opd 21 rfl rfl rfl (Yld.plain (v := .pointer (some ⟨B7, 0, none⟩)) rfl (fun _ _ => (X_fieldAddr Try.underlying29 rfl Try.inf3 rfl rfl))) ?_
  refine RQ.opd 22 rfl rfl rfl (Yld.K (v := .int .i64 0) rfl (fun _ hk => (X_load Try.underlying3 rfl rfl (hk.cell (hB17.cell _) (fun h => h))))) ?_
  refine RQ.opd 25 rfl rfl rfl (Yld.plain (v := .pointer (some ⟨B7, 1, none⟩)) rfl (fun _ _ => (X_fieldAddr Try.underlying29 rfl Try.inf3 rfl rfl))) ?_
  refine RQ.opd 26 rfl rfl rfl (Yld.K (v := .int .i64 5) rfl (fun _ hk => (X_load Try.underlying3 rfl rfl (hk.cell (hB17.cell _) (fun h => h))))) ?_
  refine RQ.opd 30 rfl rfl rfl (Yld.plain (v := .pointer (some ⟨B7, 2, none⟩)) rfl (fun _ _ => (X_fieldAddr Try.underlying29 rfl Try.inf3 rfl rfl))) ?_
  refine RQ.opd 31 rfl rfl rfl (Yld.K (v := .int .i64 1) rfl (fun _ hk => (X_load Try.underlying3 rfl rfl (hk.cell (hB17.cell _) (fun h => h))))) ?_
  refine RQ.opd 35 rfl rfl rfl (Yld.plain (v := .pointer (some ⟨B7, 3, none⟩)) rfl (fun _ _ => (X_fieldAddr Try.underlying29 rfl Try.inf3 rfl rfl))) ?_
  refine RQ.opd 36 rfl rfl rfl (Yld.K (v := .int .i64 2) rfl (fun _ hk => (X_load Try.underlying3 rfl rfl (hk.cell (hB17.cell _) (fun h => h))))) ?_
  refine RQ.nil ?_
  clear hcl hS
  intro hcl hS
  refine RD.one (i := 2) rfl (by kernel_rfl) hcl hS ?_
  refine RD.calls (by kernel_rfl) hcl rfl rfl (X_callF Try.en71 rfl) ⟨rfl, rfl⟩ (of_any 0 (by decide) w19) ?_
  rintro e25 w24 ⟨rfl, hK2⟩
  refine ⟨_, rfl, (SK.next hS hK2), ?_⟩
  clear hcl hS
  intro hcl hS
  have sz26 := hK2.size
  replace hB4 := hK2.at_ hB4 (fun h => h)
  replace hB17 := hK2.at_ hB17 (fun h => h)
  have KK27 := KK23.trans hK2
  refine RD.takesK (by kernel_rfl) [3] 9 rfl (by kernel_rfl) hcl hS ?_
  refine RQ.opd 24 rfl rfl rfl (Yld.plain rfl (fun _ _ => (X_addS (a := [UInt8.ofNat (48 + 0)]) (b := [32, 99, 97, 109, 101, 32, 97, 116, 32]) rfl rfl (Nat.le_of_ble_eq_true rfl)))) ?_
  refine RQ.nil ?_
  clear hcl hS
  intro hcl hS
  refine RD.one (i := 6) rfl (by kernel_rfl) hcl hS ?_
  refine RD.calls (by kernel_rfl) hcl rfl rfl (X_callF Try.en71 rfl) ⟨rfl, rfl⟩ (of_any 5 (by decide) w24) ?_
  rintro e29 w28 ⟨rfl, hK6⟩
  refine ⟨_, rfl, (SK.next hS hK6), ?_⟩
  clear hcl hS
  intro hcl hS
  have sz30 := hK6.size
  replace hB4 := hK6.at_ hB4 (fun h => h)
  replace hB17 := hK6.at_ hB17 (fun h => h)
  have KK31 := KK27.trans hK6
  refine RD.takesK (by kernel_rfl) [7, 8] 6 rfl (by kernel_rfl) hcl hS ?_
  refine RQ.opd 28 rfl rfl rfl (Yld.plain rfl (fun _ _ => (X_addS (a := ([UInt8.ofNat (48 + 0)] ++ [32, 99, 97, 109, 101, 32, 97, 116, 32])) (b := [UInt8.ofNat (48 + 5)]) rfl rfl (Nat.le_of_ble_eq_true rfl)))) ?_
  refine RQ.opd 29 rfl rfl rfl (Yld.plain rfl (fun _ _ => (X_addS (a := (([UInt8.ofNat (48 + 0)] ++ [32, 99, 97, 109, 101, 32, 97, 116, 32]) ++ [UInt8.ofNat (48 + 5)])) (b := [32, 102, 114, 111, 109, 32]) rfl rfl (Nat.le_of_ble_eq_true rfl)))) ?_
  refine RQ.nil ?_
  clear hcl hS
  intro hcl hS
  refine RD.one (i := 11) rfl (by kernel_rfl) hcl hS ?_
  refine RD.calls (by kernel_rfl) hcl rfl rfl (X_callF Try.en71 rfl) ⟨rfl, rfl⟩ (of_any 1 (by decide) w28) ?_
  rintro e33 w32 ⟨rfl, hK11⟩
  refine ⟨_, rfl, (SK.next hS hK11), ?_⟩
  clear hcl hS
  intro hcl hS
  have sz34 := hK11.size
  replace hB4 := hK11.at_ hB4 (fun h => h)
  replace hB17 := hK11.at_ hB17 (fun h => h)
  have KK35 := KK31.trans hK11
  refine RD.takesK (by kernel_rfl) [12, 13] 3 rfl (by kernel_rfl) hcl hS ?_
  refine RQ.opd 33 rfl rfl rfl (Yld.plain rfl (fun _ _ => (X_addS (a := ((([UInt8.ofNat (48 + 0)] ++ [32, 99, 97, 109, 101, 32, 97, 116, 32]) ++ [UInt8.ofNat (48 + 5)]) ++ [32, 102, 114, 111, 109, 32])) (b := [UInt8.ofNat (48 + 1)]) rfl rfl (Nat.le_of_ble_eq_true rfl)))) ?_
  refine RQ.opd 34 rfl rfl rfl (Yld.plain rfl (fun _ _ => (X_addS (a := (((([UInt8.ofNat (48 + 0)] ++ [32, 99, 97, 109, 101, 32, 97, 116, 32]) ++ [UInt8.ofNat (48 + 5)]) ++ [32, 102, 114, 111, 109, 32]) ++ [UInt8.ofNat (48 + 1)])) (b := [32, 116, 111, 32]) rfl rfl (Nat.le_of_ble_eq_true rfl)))) ?_
  refine RQ.nil ?_
  clear hcl hS
  intro hcl hS
  refine RD.one (i := 16) rfl (by kernel_rfl) hcl hS ?_
  refine RD.calls (by kernel_rfl) hcl rfl rfl (X_callF Try.en71 rfl) ⟨rfl, rfl⟩ (of_any 2 (by decide) w32) ?_
  rintro e37 w36 ⟨rfl, hK16⟩
  refine ⟨_, rfl, (SK.next hS hK16), ?_⟩
  clear hcl hS
  intro hcl hS
  have sz38 := hK16.size
  replace hB4 := hK16.at_ hB4 (fun h => h)
  replace hB17 := hK16.at_ hB17 (fun h => h)
  have KK39 := KK35.trans hK16
  refine RD.takesK (by kernel_rfl) [17, 18] 0 rfl (by kernel_rfl) hcl hS ?_
  refine RQ.opd 38 rfl rfl rfl (Yld.plain rfl (fun _ _ => (X_addS (a := ((((([UInt8.ofNat (48 + 0)] ++ [32, 99, 97, 109, 101, 32, 97, 116, 32]) ++ [UInt8.ofNat (48 + 5)]) ++ [32, 102, 114, 111, 109, 32]) ++ [UInt8.ofNat (48 + 1)]) ++ [32, 116, 111, 32])) (b := [UInt8.ofNat (48 + 2)]) rfl rfl (Nat.le_of_ble_eq_true rfl)))) ?_
  refine RQ.opd 6 rfl rfl rfl (Yld.plain rfl (fun _ _ => (X_assign rfl))) ?_
  refine RQ.nil ?_
  clear hcl hS
  intro hcl hS
  refine RD.done (by kernel_rfl) hcl hS ?_
  refine RW.seq ?_
  refine RW.seq ?_
  refine RW.region ?_
  refine RL.opd (v := .agg #[.int .i64 0, .int .i64 5, .int .i64 1, .int .i64 2, .int .i64 (-1), .int .i64 (-1), .int .i64 (-1)]) 39 rfl rfl rfl (X_loadAgg [.int .i64 0, .int .i64 5, .int .i64 1, .int .i64 2, .int .i64 (-1), .int .i64 (-1), .int .i64 (-1)] Try.underlying29 rfl Try.inf29 rfl (At.cells0 hB17)) ?_
  refine RL.call rfl (X_callF Try.en72 rfl) ⟨rfl, rfl⟩ (tripAt_ex w36) ?_
  rintro e41 w40 ⟨rfl, hK20⟩
  refine ⟨_, rfl, ?_⟩
  have sz42 := hK20.size
  replace hB4 := hK20.at_ hB4 (fun h => h)
  replace hB17 := hK20.at_ hB17 (fun h => h)
  have KK43 := KK39.trans hK20
  refine RL.nil ?_
  refine RW.block ?_
  refine RW.seq ?_
  refine RW.region ?_
  refine RL.opd (v := .bool (decide ((0 : Int) = 0))) 42 rfl rfl rfl (X_eql rfl rfl) ?_
  refine RL.opd (v := .bool (decide ((0 : Int) = 0))) 41 rfl rfl rfl (X_assign rfl) ?_
  refine RL.nil ?_
  refine RW.cond_true rfl ?_
  refine RW.seq ?_
  refine RW.region ?_
  refine RL.opd 43 rfl rfl rfl (X_move rfl) ?_
  refine RL.opd 44 rfl rfl rfl (X_addS (a := (((((([UInt8.ofNat (48 + 0)] ++ [32, 99, 97, 109, 101, 32, 97, 116, 32]) ++ [UInt8.ofNat (48 + 5)]) ++ [32, 102, 114, 111, 109, 32]) ++ [UInt8.ofNat (48 + 1)]) ++ [32, 116, 111, 32]) ++ [UInt8.ofNat (48 + 2)])) (b := [44, 32, 119, 97, 105, 116, 115]) rfl rfl (Nat.le_of_ble_eq_true rfl)) ?_
  refine RL.opd 4 rfl rfl rfl (X_assign rfl) ?_
  refine RL.nil ?_
  refine RW.ret ?_
  exact ret1 (.inl rfl) rfl ⟨rfl, KK43⟩

set_option maxRecDepth 10000 in
theorem alive_any (w : World) : Calls Try.prog 15 #[] w fun e w' => e = .returned (.bool true) ∧ Keeps none_ w w' := by
  refine calls_of_RW Try.func15 rfl (Nat.le_of_ble_eq_true rfl) ?_
  refine RW.seq ?_
  refine RW.region ?_
  refine RL.opd (v := .bool false) 0 rfl rfl rfl (X_assign rfl) ?_
  refine RL.nil ?_
  refine RW.seq ?_
  refine RW.region ?_
  refine RL.opd (v := .agg #[.int .i64 0, .int .i64 5, .int .i64 1, .int .i64 2, .int .i64 (-1), .int .i64 (-1), .int .i64 (-1)]) 1 rfl rfl rfl (X_build (cells := #[.int .i64 0, .int .i64 5, .int .i64 1, .int .i64 2, .int .i64 (-1), .int .i64 (-1), .int .i64 (-1)]) (by simp only [List.map]; kernel_rfl)) ?_
  refine RL.lit1 (v := .agg #[.int .i64 0, .int .i64 5, .int .i64 1, .int .i64 2, .int .i64 (-1), .int .i64 (-1), .int .i64 (-1)]) rfl rfl ⟨rfl, rfl⟩ Try.underlying22 Try.inf29 rfl (by decide) rfl rfl (fun B1 w2 ge5 hB4 K3 => ?_)
  have gb_B1 : w.heap.size ≤ B1 := ge5
  have sz6 := K3.size
  refine RL.opd (v := .agg #[.slice (some ⟨B1, 0, none⟩) 1 1, .slice none 0 0, .int .i64 0]) 3 rfl rfl rfl (X_build (cells := #[.slice (some ⟨B1, 0, none⟩) 1 1, .slice none 0 0, .int .i64 0]) (by simp only [List.map]; kernel_rfl)) ?_
  refine RL.call rfl (X_callF Try.en41 rfl) ⟨rfl, rfl⟩ (story_ex B1 w2 hB4) ?_
  rintro e8 w7 ⟨rfl, hK9⟩
  refine ⟨_, rfl, ?_⟩
  have sz9 := hK9.size
  replace hB4 := hK9.at_ hB4 (fun h => h)
  have KK10 := K3.trans hK9
  refine RL.opd 5 rfl rfl rfl (X_eqS (r := true) rfl (show Value.string _ = str [48, 32, 99, 97, 109, 101, 32, 97, 116, 32, 53, 32, 102, 114, 111, 109, 32, 49, 32, 116, 111, 32, 50, 44, 32, 119, 97, 105, 116, 115] from rfl) (by decide)) ?_
  refine RL.opd 0 rfl rfl rfl (X_assign rfl) ?_
  refine RL.nil ?_
  refine RW.ret ?_
  exact ret1 (.inl rfl) rfl ⟨rfl, KK10⟩

end Go.Proofs
