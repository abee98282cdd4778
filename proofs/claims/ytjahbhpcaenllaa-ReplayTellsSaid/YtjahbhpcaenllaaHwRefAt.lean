/- Where a car is, as the document has it. -/
import Derived.Test.YtjahbhpcaenllaaHwTypes
import Derived.Test.YtjahbhpcaenllaaHwReplayLaw
namespace Hw.Sym
end Hw.Sym
namespace Go.Proofs
open Go.RowKit Go.Hw Hw.Sym
set_option maxRecDepth 10000 in
theorem refat_any (A : Option Addr) (cap : Nat) (l : List Leg) (w : World) (t : Int) (ht : -1073741824 ≤ t ∧ t ≤ 1073741824) (hn : l.length ≤ 1000000) (hL : Row w A (l.flatMap Leg.enc)) (hg : ∀ i (h : i < l.length), LegOk l[i]) :
    Calls Try.prog 8 #[.slice A l.length cap, .int .i64 t] w fun e w' => ∃ d b, e = .returned (.tuple #[.agg #[.int .i64 (posAt l t), .bool d], .bool b]) ∧ Keeps none_ w w' := by
  refine calls_of_RW Try.func8 rfl (Nat.le_of_ble_eq_true rfl) ?_
  refine RW.seq ?_
  refine RW.region ?_
  refine RL.alloc rfl rfl Try.inf31 ⟨rfl, rfl⟩ (fun B1 w2 ge5 hB4 K3 => ?_)
  have gb_B1 : w.heap.size ≤ B1 := ge5
  have sz6 := K3.size
  refine RL.opd (v := .bool false) 5 rfl rfl rfl (X_assign rfl) ?_
  refine RL.nil ?_
  refine RW.seq ?_
  refine RW.region ?_
  refine RL.opd (v := .agg #[.int .i64 0, .bool false]) 9 rfl rfl rfl (X_build (cells := #[.int .i64 0, .bool false]) (by simp only [List.map]; kernel_rfl)) ?_
  refine RL.alloc rfl rfl Try.inf31 ⟨rfl, rfl⟩ (fun B7 w8 ge11 hB10 K9 => ?_)
  have gb_B7 : w.heap.size ≤ B7 := Nat.le_trans K3.size ge11
  have ne12 : B1 ≠ B7 := by have := hB4.lt; omega
  have sz13 := K9.size
  replace hB4 := K9.at_ hB4 (fun h => h)
  have KK14 := K3.trans K9
  refine RL.storeAt (v := .agg #[.int .i64 0, .bool false]) rfl rfl rfl Try.inf31 rfl rfl rfl rfl hB10 (Nat.le_of_ble_eq_true rfl) (fun w15 hB17 K16 => ?_)
  try (rw [splice_all rfl] at hB17)
  replace hB4 := K16.at_ hB4 (by intro h; exact absurd h (by omega))
  have KK18 := KK14.trans_new K16 (fun i hi h => absurd h (by omega))
  refine RL.opd (v := .bool false) 7 rfl rfl rfl (X_assign rfl) ?_
  refine RL.nil ?_
  refine RW.seq ?_
  refine RW.seq ?_
  refine RW.region ?_
  refine RL.opd (v := .int .i64 0) 8 rfl rfl rfl (X_assign rfl) ?_
  refine RL.nil ?_
  refine RW.block ?_
  refine RW.loop (fun gk φ wr => (φ 0 = .slice A l.length cap ∧ φ 1 = .int .i64 t ∧ φ 4 = .pointer (some ⟨B1, 0, none⟩) ∧ φ 6 = .pointer (some ⟨B7, 0, none⟩)) ∧ ∃ (bb dd : Bool) (k : Nat), φ 7 = .bool bb ∧ φ 8 = .int .i64 (k : Nat) ∧ k ≤ l.length ∧ gk + k = l.length ∧ At wr B1 (.cells #[.int .i64 0, .bool false] 31) ∧ At wr B7 (.cells #[.int .i64 (posAt (l.take k) t), .bool dd] 31) ∧ Keeps none_ w wr) l.length ?_ ?_
  · exact ⟨⟨rfl, rfl, rfl, rfl⟩, _, false, 0, rfl, rfl, Nat.zero_le _, rfl, hB4, hB17, KK18⟩
  · rintro gk1 φ wr1 ⟨⟨h_0, h_1, h_4, h_6⟩, bb, dd, k, h_7, h_8, hk, hgk, hz, hat, hK⟩
    obtain ⟨φ0, rfl⟩ : ∃ φ0, φ = upd (upd (upd (upd (upd (upd φ0 0 (.slice A l.length cap)) 1 (.int .i64 t)) 4 (.pointer (some ⟨B1, 0, none⟩))) 6 (.pointer (some ⟨B7, 0, none⟩))) 7 (.bool bb)) 8 (.int .i64 (k : Nat)) := ⟨φ, by rw [upd_of h_0, upd_of h_1, upd_of h_4, upd_of h_6, upd_of h_7, upd_of h_8]⟩
    clear h_0 h_1 h_4 h_6 h_7 h_8
    have hsz := hK.size
    refine RW.seq ?_
    refine RW.seq ?_
    refine RW.region ?_
    refine RL.opd (v := .int .i64 (k : Nat)) 10 rfl rfl rfl (X_move rfl) ?_
    refine RL.opd (v := .slice A l.length cap) 11 rfl rfl rfl (X_move rfl) ?_
    refine RL.opd (v := .int .i64 (l.length : Nat)) 12 rfl rfl rfl (X_len Try.underlying34 rfl) ?_
    refine RL.opd (v := .bool (decide (((k : Nat) : Int) < (l.length : Nat)))) 13 rfl rfl rfl (X_lss rfl rfl) ?_
    refine RL.nil ?_
    refine RW.cond rfl (fun hlt => ?_) (fun hlt => ?_)
    · -- slot 13: True
      refine RW.skip ?_
      refine RW.seq ?_
      refine RW.block ?_
      refine RW.seq ?_
      have hlt := of_decide_eq_true hlt
      have hlt : k < l.length := by omega
      obtain ⟨b, o, rfl, hc0⟩ := hL.elem 3 (fun _ => rfl) hlt
      have hck := hc0 k hlt
      clear hc0
      have hok := hg k hlt
      have h1 := hok.tick
      have h2 := hok.pos
      have hm := dir_mul (x := t - l[k].tick) hok.dir
      refine RW.region ?_
      refine RL.opd (v := .slice (some ⟨b, o, none⟩) l.length cap) 16 rfl rfl rfl (X_move rfl) ?_
      refine RL.opd (v := .int .i64 (k : Nat)) 17 rfl rfl rfl (X_move rfl) ?_
      refine RL.opd (v := .pointer (some ⟨b, o + (k) * 4, none⟩)) 18 rfl rfl rfl (X_indexAddr Try.underlying34 Try.inf103 rfl rfl (by omega)) ?_
      refine RL.opd (v := .pointer (some ⟨b, o + (k) * 4 + 0, none⟩)) 19 rfl rfl rfl (X_fieldAddr Try.underlying103 rfl Try.inf3 rfl rfl) ?_
      refine RL.opd (v := .int .i64 l[k].tick) 20 rfl rfl rfl (X_load Try.underlying3 rfl rfl (hK.cell (hck 0 _ rfl) (fun h => h))) ?_
      refine RL.opd (v := .int .i64 t) 21 rfl rfl rfl (X_move rfl) ?_
      refine RL.opd (v := .bool (decide ((l[k].tick : Int) ≤ t))) 22 rfl rfl rfl (X_leq rfl rfl) ?_
      refine RL.nil ?_
      refine RW.cond rfl (fun hc => ?_) (fun hc => ?_)
      · -- slot 22: True
        refine RW.drawKU 25 Try.mixed (fun w19 hw20 hcl hS => ?_)
        have K21 : Keeps none_ wr1 w19 := by rw [hw20]; exact Keeps.drew _ _
        clear hw20
        have sz22 := K21.size
        replace hz := K21.at_ hz (fun h => h)
        replace hat := K21.at_ hat (fun h => h)
        have KK23 := hK.trans K21
        refine RD.takesKU (by kernel_rfl) [0, 1, 2, 3, 4, 5, 6, 7, 8, 9, 10, 11, 12, 13, 14, 15, 16, 17, 18, 19, 20, 21, 22, 23, 24] 2 rfl (by kernel_rfl) rfl hcl hS ?_
        refine RQ.opd 23 rfl rfl rfl (Yld.plain (v := .slice (some ⟨b, o, none⟩) l.length cap) rfl (fun _ _ => (X_move rfl))) ?_
        refine RQ.opd 24 rfl rfl rfl (Yld.plain (v := .int .i64 (k : Nat)) rfl (fun _ _ => (X_move rfl))) ?_
        refine RQ.opd 25 rfl rfl rfl (Yld.plain (v := .pointer (some ⟨b, o + (k) * 4, none⟩)) rfl (fun _ _ => (X_indexAddr Try.underlying34 Try.inf103 rfl rfl (by omega)))) ?_
        refine RQ.opd 26 rfl rfl rfl (Yld.plain (v := .pointer (some ⟨b, o + (k) * 4 + 1, none⟩)) rfl (fun _ _ => (X_fieldAddr Try.underlying103 rfl Try.inf3 rfl rfl))) ?_
        refine RQ.opd 27 rfl rfl rfl (Yld.KU (v := .int .i64 l[k].pos) 27 rfl (by kernel_rfl) (fun _ hk => (X_load Try.underlying3 rfl rfl (hk.cell (KK23.cell (hck 1 _ rfl) (fun h => h)) (fun h => h))))) ?_
        refine RQ.opd 28 rfl rfl rfl (Yld.plain (v := .slice (some ⟨b, o, none⟩) l.length cap) rfl (fun _ _ => (X_move rfl))) ?_
        refine RQ.opd 29 rfl rfl rfl (Yld.plain (v := .int .i64 (k : Nat)) rfl (fun _ _ => (X_move rfl))) ?_
        refine RQ.opd 30 rfl rfl rfl (Yld.plain (v := .pointer (some ⟨b, o + (k) * 4, none⟩)) rfl (fun _ _ => (X_indexAddr Try.underlying34 Try.inf103 rfl rfl (by omega)))) ?_
        refine RQ.opd 31 rfl rfl rfl (Yld.plain (v := .pointer (some ⟨b, o + (k) * 4 + 2, none⟩)) rfl (fun _ _ => (X_fieldAddr Try.underlying103 rfl Try.inf3 rfl rfl))) ?_
        refine RQ.opd 32 rfl rfl rfl (Yld.KU (v := .int .i64 l[k].dir) 27 rfl (by kernel_rfl) (fun _ hk => (X_load Try.underlying3 rfl rfl (hk.cell (KK23.cell (hck 2 _ rfl) (fun h => h)) (fun h => h))))) ?_
        refine RQ.opd 33 rfl rfl rfl (Yld.plain (v := .int .i64 t) rfl (fun _ _ => (X_move rfl))) ?_
        refine RQ.opd 34 rfl rfl rfl (Yld.plain (v := .slice (some ⟨b, o, none⟩) l.length cap) rfl (fun _ _ => (X_move rfl))) ?_
        refine RQ.opd 35 rfl rfl rfl (Yld.plain (v := .int .i64 (k : Nat)) rfl (fun _ _ => (X_move rfl))) ?_
        refine RQ.opd 36 rfl rfl rfl (Yld.plain (v := .pointer (some ⟨b, o + (k) * 4, none⟩)) rfl (fun _ _ => (X_indexAddr Try.underlying34 Try.inf103 rfl rfl (by omega)))) ?_
        refine RQ.opd 37 rfl rfl rfl (Yld.plain (v := .pointer (some ⟨b, o + (k) * 4 + 0, none⟩)) rfl (fun _ _ => (X_fieldAddr Try.underlying103 rfl Try.inf3 rfl rfl))) ?_
        refine RQ.opd 38 rfl rfl rfl (Yld.KU (v := .int .i64 l[k].tick) 27 rfl (by kernel_rfl) (fun _ hk => (X_load Try.underlying3 rfl rfl (hk.cell (KK23.cell (hck 0 _ rfl) (fun h => h)) (fun h => h))))) ?_
        refine RQ.opd 39 rfl rfl rfl (Yld.plain (v := .int .i64 ((t : Int) - l[k].tick)) rfl (fun _ _ => (X_sub rfl rfl (by omega) rfl))) ?_
        refine RQ.opd 40 rfl rfl rfl (Yld.plain (v := .int .i64 ((l[k].dir : Int) * ((t : Int) - l[k].tick))) rfl (fun _ _ => (X_mul rfl rfl (by omega) rfl))) ?_
        refine RQ.opd 41 rfl rfl rfl (Yld.plain (v := .int .i64 ((l[k].pos : Int) + ((l[k].dir : Int) * ((t : Int) - l[k].tick)))) rfl (fun _ _ => (X_add rfl rfl (by omega) rfl))) ?_
        refine RQ.opd 42 rfl rfl rfl (Yld.plain (v := .slice (some ⟨b, o, none⟩) l.length cap) rfl (fun _ _ => (X_move rfl))) ?_
        refine RQ.opd 43 rfl rfl rfl (Yld.plain (v := .int .i64 (k : Nat)) rfl (fun _ _ => (X_move rfl))) ?_
        refine RQ.opd 44 rfl rfl rfl (Yld.plain (v := .pointer (some ⟨b, o + (k) * 4, none⟩)) rfl (fun _ _ => (X_indexAddr Try.underlying34 Try.inf103 rfl rfl (by omega)))) ?_
        refine RQ.opd 45 rfl rfl rfl (Yld.plain (v := .pointer (some ⟨b, o + (k) * 4 + 3, none⟩)) rfl (fun _ _ => (X_fieldAddr Try.underlying103 rfl Try.inf4 rfl rfl))) ?_
        refine RQ.opd 46 rfl rfl rfl (Yld.KU (v := .bool l[k].door) 27 rfl (by kernel_rfl) (fun _ hk => (X_load Try.underlying4 rfl rfl (hk.cell (KK23.cell (hck 3 _ rfl) (fun h => h)) (fun h => h))))) ?_
        refine RQ.opd 47 rfl rfl rfl (Yld.plain (v := .agg #[.int .i64 (l[k].pos + l[k].dir * (t - l[k].tick)), .bool l[k].door]) rfl (fun _ _ => (X_build (cells := #[.int .i64 (l[k].pos + l[k].dir * (t - l[k].tick)), .bool l[k].door]) (by simp only [List.map]; kernel_rfl)))) ?_
        refine RQ.nil ?_
        clear hcl hS
        intro hcl hS
        refine RD.one (i := 25) rfl (by kernel_rfl) hcl hS ?_
        refine RD.storeAt (v := .agg #[.int .i64 (l[k].pos + l[k].dir * (t - l[k].tick)), .bool l[k].door]) (by kernel_rfl) hcl rfl rfl rfl rfl Try.inf31 rfl rfl rfl rfl hat (Nat.le_of_ble_eq_true rfl) (fun _ _ _ => (SKU.now hcl rfl)) ?_
        clear hcl hS
        intro w24 hB26 K25 hcl hS
        try (rw [splice_all rfl] at hB26)
        replace hz := K25.at_ hz (by intro h; exact absurd h (by omega))
        have KK27 := KK23.trans_new K25 (fun i hi h => absurd h (by omega))
        refine RD.takesKU (by kernel_rfl) [26] 0 rfl (by kernel_rfl) rfl hcl hS ?_
        refine RQ.opd 7 rfl rfl rfl (Yld.plain (v := .bool true) rfl (fun _ _ => (X_assign rfl))) ?_
        refine RQ.nil ?_
        clear hcl hS
        intro hcl hS
        refine RD.done (by kernel_rfl) hcl hS ?_
        refine RW.region ?_
        refine RL.opd (v := .int .i64 (k : Nat)) 14 rfl rfl rfl (X_move rfl) ?_
        refine RL.opd (v := .int .i64 (((k : Nat) : Int) + 1)) 15 rfl rfl rfl (X_add rfl rfl (by omega) rfl) ?_
        refine RL.opd (v := .int .i64 (((k : Nat) : Int) + 1)) 8 rfl rfl rfl (X_assign rfl) ?_
        refine RL.nil ?_
        refine ⟨gk1 - 1, by omega, ⟨rfl, rfl, rfl, rfl⟩, ?_⟩
        refine ⟨_, l[k].door, k + 1, rfl, rfl, by omega, by omega, hz, ?_, KK27⟩
        have e := posAt_snoc l t k hlt
        rw [if_pos (of_decide_eq_true hc)] at e; rw [e]
        exact hB26
      · -- slot 22: False
        refine RW.skip ?_
        refine RW.region ?_
        refine RL.opd (v := .int .i64 (k : Nat)) 14 rfl rfl rfl (X_move rfl) ?_
        refine RL.opd (v := .int .i64 (((k : Nat) : Int) + 1)) 15 rfl rfl rfl (X_add rfl rfl (by omega) rfl) ?_
        refine RL.opd (v := .int .i64 (((k : Nat) : Int) + 1)) 8 rfl rfl rfl (X_assign rfl) ?_
        refine RL.nil ?_
        refine ⟨gk1 - 1, by omega, ⟨rfl, rfl, rfl, rfl⟩, ?_⟩
        refine ⟨_, dd, k + 1, rfl, rfl, by omega, by omega, hz, ?_, hK⟩
        have e := posAt_snoc l t k hlt
        rw [if_neg (of_decide_eq_false hc)] at e; rw [e]
        exact hat
    · -- slot 13: False
      refine RW.exit ?_
      refine RW.seq ?_
      refine RW.region ?_
      refine RL.opd (v := .agg #[.int .i64 (posAt (l.take k) t), .bool dd]) 48 rfl rfl rfl (X_loadAgg [.int .i64 (posAt (l.take k) t), .bool dd] Try.underlying31 rfl Try.inf31 rfl (At.cells0 hat)) ?_
      refine RL.opd (v := .bool bb) 49 rfl rfl rfl (X_move rfl) ?_
      refine RL.storeAt (v := .agg #[.int .i64 (posAt (l.take k) t), .bool dd]) rfl rfl rfl Try.inf31 rfl rfl rfl rfl hz (Nat.le_of_ble_eq_true rfl) (fun w28 hB30 K29 => ?_)
      try (rw [splice_all rfl] at hB30)
      replace hat := K29.at_ hat (by intro h; exact absurd h (by omega))
      have KK31 := hK.trans_new K29 (fun i hi h => absurd h (by omega))
      refine RL.opd (v := .bool bb) 5 rfl rfl rfl (X_assign rfl) ?_
      refine RL.nil ?_
      refine RW.ret ?_
      obtain rfl : k = l.length := by have := of_decide_eq_false hlt; omega
      rw [List.take_length] at hB30
      exact ret2c [.int .i64 (posAt l t), .bool dd] (.inl rfl) rfl rfl Try.underlying31 rfl Try.inf31 (At.cells0 hB30) ⟨dd, bb, rfl, KK31⟩

end Go.Proofs
