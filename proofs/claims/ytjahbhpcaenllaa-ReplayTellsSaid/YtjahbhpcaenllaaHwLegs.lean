/- Legs: where a car is. -/
import Derived.Test.YtjahbhpcaenllaaHwTypes
import Derived.Test.YtjahbhpcaenllaaHwReplayLaw
namespace Hw.Sym
end Hw.Sym
namespace Go.Proofs
open Go.RowKit Go.Hw Hw.Sym
set_option maxRecDepth 10000 in
theorem find_any (A : Option Addr) (cap : Nat) (l : List Leg) (w : World) (t : Int) (hn : l.length ≤ 1000000) (hL : Row w A (l.flatMap Leg.enc)) (hr : Rises l) :
    Calls Try.prog 70 #[.slice A l.length cap, .int .i64 t] w fun e w' => ∃ (z : Int) (p : Nat), Upto l t p ∧ z = p - 1 ∧ e = .returned (.int .i64 z) ∧ w = w' := by
  refine calls_of_RW Try.func70 rfl (Nat.le_of_ble_eq_true rfl) ?_
  refine RW.seq ?_
  refine RW.region ?_
  refine RL.opd (v := .int .i64 0) 4 rfl rfl rfl (X_assign rfl) ?_
  refine RL.nil ?_
  refine RW.seq ?_
  refine RW.region ?_
  refine RL.opd (v := .slice A l.length cap) 8 rfl rfl rfl (X_move rfl) ?_
  refine RL.opd (v := .int .i64 (l.length : Nat)) 9 rfl rfl rfl (X_len Try.underlying34 rfl) ?_
  refine RL.opd (v := .int .i64 0) 5 rfl rfl rfl (X_assign rfl) ?_
  refine RL.opd (v := .int .i64 (l.length : Nat)) 6 rfl rfl rfl (X_assign rfl) ?_
  refine RL.nil ?_
  refine RW.seq ?_
  refine RW.block ?_
  refine RW.loop (fun gk φ wr => (φ 0 = .slice A l.length cap ∧ φ 1 = .int .i64 t) ∧ ∃ (lo hi : Nat), φ 5 = .int .i64 (lo : Nat) ∧ φ 6 = .int .i64 (hi : Nat) ∧ lo ≤ hi ∧ hi ≤ l.length ∧ gk = hi - lo ∧ w = wr ∧ (∀ i (h : i < l.length), i < lo → l[i].tick ≤ t) ∧ (∀ i (h : i < l.length), hi ≤ i → t < l[i].tick)) (l.length - 0) ?_ ?_
  · exact ⟨⟨rfl, rfl⟩, 0, l.length, rfl, rfl, Nat.zero_le _, Nat.le_refl _, rfl, rfl, (fun i h h2 => absurd h2 (by omega)), (fun i h h2 => absurd h2 (by omega))⟩
  · rintro gk1 φ wr1 ⟨⟨h_0, h_1⟩, lo, hi, h_5, h_6, hlh, hhl, hgk, rfl, ha, hb⟩
    obtain ⟨φ0, rfl⟩ : ∃ φ0, φ = upd (upd (upd (upd φ0 0 (.slice A l.length cap)) 1 (.int .i64 t)) 5 (.int .i64 (lo : Nat))) 6 (.int .i64 (hi : Nat)) := ⟨φ, by rw [upd_of h_0, upd_of h_1, upd_of h_5, upd_of h_6]⟩
    clear h_0 h_1 h_5 h_6
    refine RW.seq ?_
    refine RW.seq ?_
    refine RW.region ?_
    refine RL.opd (v := .int .i64 (lo : Nat)) 10 rfl rfl rfl (X_move rfl) ?_
    refine RL.opd (v := .int .i64 (hi : Nat)) 11 rfl rfl rfl (X_move rfl) ?_
    refine RL.opd (v := .bool (decide (((lo : Nat) : Int) < (hi : Nat)))) 12 rfl rfl rfl (X_lss rfl rfl) ?_
    refine RL.nil ?_
    refine RW.cond rfl (fun hlt => ?_) (fun hlt => ?_)
    · -- slot 12: True
      refine RW.skip ?_
      refine RW.block ?_
      refine RW.seq ?_
      have hlt := of_decide_eq_true hlt
      have hm : ((lo + hi) / 2) < l.length := by omega
      refine RW.region ?_
      refine RL.opd (v := .int .i64 (lo : Nat)) 13 rfl rfl rfl (X_move rfl) ?_
      refine RL.opd (v := .int .i64 (hi : Nat)) 14 rfl rfl rfl (X_move rfl) ?_
      refine RL.opd (v := .int .i64 (((lo : Nat) : Int) + (hi : Nat))) 15 rfl rfl rfl (X_add rfl rfl (by omega) rfl) ?_
      refine RL.opd 16 rfl rfl rfl (X_convU Try.underlying3 Try.underlying185 rfl (by omega)) ?_
      refine RL.opd 17 rfl rfl rfl (X_shr1 rfl rfl) ?_
      refine RL.opd (v := .int .i64 (((lo + hi) / 2) : Nat)) 18 rfl rfl rfl (X_convI Try.underlying185 Try.underlying3 rfl (by omega) (show ((lo : Int) + (hi : Int)) / 2 = ((((lo + hi) / 2) : Nat) : Int) by omega)) ?_
      refine RL.opd (v := .int .i64 (((lo + hi) / 2) : Nat)) 7 rfl rfl rfl (X_assign rfl) ?_
      refine RL.nil ?_
      refine RW.seq ?_
      obtain ⟨b, o, rfl, hc⟩ := hL.elem 3 (fun _ => rfl) hm
      have hck := hc ((lo + hi) / 2) hm
      clear hc
      refine RW.region ?_
      refine RL.opd (v := .slice (some ⟨b, o, none⟩) l.length cap) 19 rfl rfl rfl (X_move rfl) ?_
      refine RL.opd (v := .int .i64 (((lo + hi) / 2) : Nat)) 20 rfl rfl rfl (X_move rfl) ?_
      refine RL.opd (v := .pointer (some ⟨b, o + (((lo + hi) / 2)) * 4, none⟩)) 21 rfl rfl rfl (X_indexAddr Try.underlying34 Try.inf103 rfl rfl (by omega)) ?_
      refine RL.opd (v := .pointer (some ⟨b, o + (((lo + hi) / 2)) * 4 + 0, none⟩)) 22 rfl rfl rfl (X_fieldAddr Try.underlying103 rfl Try.inf3 rfl rfl) ?_
      refine RL.opd (v := .int .i64 l[((lo + hi) / 2)].tick) 23 rfl rfl rfl (X_load Try.underlying3 rfl rfl (hck 0 _ rfl)) ?_
      refine RL.opd (v := .int .i64 t) 24 rfl rfl rfl (X_move rfl) ?_
      refine RL.opd (v := .bool (decide ((l[((lo + hi) / 2)].tick : Int) ≤ t))) 25 rfl rfl rfl (X_leq rfl rfl) ?_
      refine RL.nil ?_
      refine RW.cond rfl (fun hc => ?_) (fun hc => ?_)
      · -- slot 25: True
        refine RW.region ?_
        refine RL.opd (v := .int .i64 (((lo + hi) / 2) : Nat)) 26 rfl rfl rfl (X_move rfl) ?_
        refine RL.opd (v := .int .i64 (((lo + hi) / 2) + 1 : Nat)) 27 rfl rfl rfl (X_add rfl rfl (by omega) (show ((((lo + hi) / 2) : Nat) : Int) + 1 = ((((lo + hi) / 2) + 1 : Nat) : Int) by omega)) ?_
        refine RL.opd (v := .int .i64 (((lo + hi) / 2) + 1 : Nat)) 5 rfl rfl rfl (X_assign rfl) ?_
        refine RL.nil ?_
        refine ⟨hi - (((lo + hi) / 2) + 1), by omega, ⟨rfl, rfl⟩, ?_⟩
        refine ⟨((lo + hi) / 2) + 1, hi, rfl, rfl, by omega, by omega, by omega, rfl, fun i h hi' => ?_, hb⟩
        have hc := of_decide_eq_true hc
        by_cases e : i = ((lo + hi) / 2)
        · subst e; exact hc
        · have := hr.lt (i := i) (j := ((lo + hi) / 2)) (by omega) hm; omega
      · -- slot 25: False
        refine RW.region ?_
        refine RL.opd (v := .int .i64 (((lo + hi) / 2) : Nat)) 28 rfl rfl rfl (X_move rfl) ?_
        refine RL.opd (v := .int .i64 (((lo + hi) / 2) : Nat)) 6 rfl rfl rfl (X_assign rfl) ?_
        refine RL.nil ?_
        refine ⟨((lo + hi) / 2) - lo, by omega, ⟨rfl, rfl⟩, ?_⟩
        refine ⟨lo, ((lo + hi) / 2), rfl, rfl, by omega, by omega, by omega, rfl, ha, fun i h hi' => ?_⟩
        have hc := of_decide_eq_false hc
        by_cases e : i = ((lo + hi) / 2)
        · subst e; omega
        · have := hr.lt (i := ((lo + hi) / 2)) (j := i) (by omega) h; omega
    · -- slot 12: False
      refine RW.exit ?_
      refine RW.seq ?_
      refine RW.region ?_
      refine RL.opd (v := .int .i64 (lo : Nat)) 29 rfl rfl rfl (X_move rfl) ?_
      refine RL.opd (v := .int .i64 (((lo : Nat) : Int) - 1)) 30 rfl rfl rfl (X_sub rfl rfl (by omega) rfl) ?_
      refine RL.opd (v := .int .i64 (((lo : Nat) : Int) - 1)) 4 rfl rfl rfl (X_assign rfl) ?_
      refine RL.nil ?_
      refine RW.ret ?_
      have hlt := of_decide_eq_false hlt
      obtain rfl : hi = lo := by omega
      exact ret1 (.inl rfl) rfl ⟨_, _, ⟨by omega, fun i h h2 => ha i h h2, fun i h h2 => hb i h h2⟩, rfl, rfl, rfl⟩

set_option maxRecDepth 10000 in
theorem at_any (A : Option Addr) (cap : Nat) (l : List Leg) (w : World) (t : Int) (ht : -1073741824 ≤ t ∧ t ≤ 1073741824) (hn : l.length ≤ 1000000) (hL : Row w A (l.flatMap Leg.enc)) (hr : Rises l) (hg : ∀ i (h : i < l.length), LegOk l[i]) :
    Calls Try.prog 40 #[.slice A l.length cap, .int .i64 t] w fun e w' => ∃ d b, e = .returned (.tuple #[.int .i64 (posAt l t), .bool d, .bool b]) ∧ Keeps none_ w w' := by
  refine calls_of_RW Try.func40 rfl (Nat.le_of_ble_eq_true rfl) ?_
  refine RW.seq ?_
  refine RW.region ?_
  refine RL.opd (v := .int .i64 0) 4 rfl rfl rfl (X_assign rfl) ?_
  refine RL.opd (v := .bool false) 5 rfl rfl rfl (X_assign rfl) ?_
  refine RL.opd (v := .bool false) 6 rfl rfl rfl (X_assign rfl) ?_
  refine RL.nil ?_
  refine RW.seq ?_
  refine RW.region ?_
  refine RL.opd (v := .slice A l.length cap) 8 rfl rfl rfl (X_move rfl) ?_
  refine RL.opd (v := .int .i64 t) 9 rfl rfl rfl (X_move rfl) ?_
  refine RL.call rfl (X_callF Try.en70 rfl) ⟨rfl, rfl⟩ (find_any A cap l w t hn hL hr) ?_
  rintro e1 w ⟨z, p, hU, hz, rfl, rfl⟩
  refine ⟨_, rfl, ?_⟩
  refine RL.opd (v := .int .i64 z) 7 rfl rfl rfl (X_assign rfl) ?_
  refine RL.nil ?_
  refine RW.seq ?_
  refine RW.seq ?_
  refine RW.region ?_
  refine RL.opd (v := .int .i64 z) 11 rfl rfl rfl (X_move rfl) ?_
  refine RL.opd (v := .bool (decide ((z : Int) < 0))) 12 rfl rfl rfl (X_lss rfl rfl) ?_
  refine RL.nil ?_
  refine RW.cond rfl (fun hc => ?_) (fun hc => ?_)
  · -- slot 12: True
    refine RW.seq ?_
    refine RW.region ?_
    refine RL.opd (v := .int .i64 0) 4 rfl rfl rfl (X_assign rfl) ?_
    refine RL.opd (v := .bool false) 5 rfl rfl rfl (X_assign rfl) ?_
    refine RL.opd (v := .bool false) 6 rfl rfl rfl (X_assign rfl) ?_
    refine RL.nil ?_
    refine RW.ret ?_
    have hc := of_decide_eq_true hc
    refine ret3 (.inl rfl) rfl ?_
    refine ⟨false, false, ?_, Keeps.refl _ _⟩
    obtain rfl : p = 0 := by omega
    rw [hU.pos0]
    rfl
  · -- slot 12: False
    refine RW.skip ?_
    refine RW.seq ?_
    have hc := of_decide_eq_false hc
    obtain ⟨q, rfl⟩ : ∃ q : Nat, z = q := ⟨z.toNat, by omega⟩
    have hp : q < l.length := by have := hU.le; omega
    have hp' : p - 1 = q := by omega
    obtain ⟨b, o, rfl, hcl⟩ := hL.elem 3 (fun _ => rfl) hp
    have hck := hcl q hp
    clear hcl
    have hok := hg q hp
    have h1 := hok.tick
    have h2 := hok.pos
    have hm := dir_mul (x := t - l[q].tick) hok.dir
    refine RW.drawK Try.mixed (fun w2 hw3 hcl hS => ?_)
    have K4 : Keeps none_ w w2 := by rw [hw3]; exact Keeps.drew _ _
    clear hw3
    have sz5 := K4.size
    refine RD.takesK (by kernel_rfl) [0, 1, 2, 3, 4, 5, 6, 7, 8, 9, 10, 11, 12, 13, 14, 15, 16, 17, 18, 19, 20, 21, 22, 23, 24, 25, 26] 0 rfl (by kernel_rfl) hcl hS ?_
    refine RQ.opd 13 rfl rfl rfl (Yld.plain (v := .slice (some ⟨b, o, none⟩) l.length cap) rfl (fun _ _ => (X_move rfl))) ?_
    refine RQ.opd 14 rfl rfl rfl (Yld.plain (v := .int .i64 (q : Nat)) rfl (fun _ _ => (X_move rfl))) ?_
    refine RQ.opd 15 rfl rfl rfl (Yld.plain (v := .pointer (some ⟨b, o + (q) * 4, none⟩)) rfl (fun _ _ => (X_indexAddr Try.underlying34 Try.inf103 rfl rfl (by omega)))) ?_
    refine RQ.opd 16 rfl rfl rfl (Yld.plain (v := .pointer (some ⟨b, o + (q) * 4 + 1, none⟩)) rfl (fun _ _ => (X_fieldAddr Try.underlying103 rfl Try.inf3 rfl rfl))) ?_
    refine RQ.opd 17 rfl rfl rfl (Yld.K (v := .int .i64 l[q].pos) rfl (fun _ hk => (X_load Try.underlying3 rfl rfl (hk.cell (K4.cell (hck 1 _ rfl) (fun h => h)) (fun h => h))))) ?_
    refine RQ.opd 18 rfl rfl rfl (Yld.plain (v := .slice (some ⟨b, o, none⟩) l.length cap) rfl (fun _ _ => (X_move rfl))) ?_
    refine RQ.opd 19 rfl rfl rfl (Yld.plain (v := .int .i64 (q : Nat)) rfl (fun _ _ => (X_move rfl))) ?_
    refine RQ.opd 20 rfl rfl rfl (Yld.plain (v := .pointer (some ⟨b, o + (q) * 4, none⟩)) rfl (fun _ _ => (X_indexAddr Try.underlying34 Try.inf103 rfl rfl (by omega)))) ?_
    refine RQ.opd 21 rfl rfl rfl (Yld.plain (v := .pointer (some ⟨b, o + (q) * 4 + 2, none⟩)) rfl (fun _ _ => (X_fieldAddr Try.underlying103 rfl Try.inf3 rfl rfl))) ?_
    refine RQ.opd 22 rfl rfl rfl (Yld.K (v := .int .i64 l[q].dir) rfl (fun _ hk => (X_load Try.underlying3 rfl rfl (hk.cell (K4.cell (hck 2 _ rfl) (fun h => h)) (fun h => h))))) ?_
    refine RQ.opd 23 rfl rfl rfl (Yld.plain (v := .int .i64 t) rfl (fun _ _ => (X_move rfl))) ?_
    refine RQ.opd 24 rfl rfl rfl (Yld.plain (v := .slice (some ⟨b, o, none⟩) l.length cap) rfl (fun _ _ => (X_move rfl))) ?_
    refine RQ.opd 25 rfl rfl rfl (Yld.plain (v := .int .i64 (q : Nat)) rfl (fun _ _ => (X_move rfl))) ?_
    refine RQ.opd 26 rfl rfl rfl (Yld.plain (v := .pointer (some ⟨b, o + (q) * 4, none⟩)) rfl (fun _ _ => (X_indexAddr Try.underlying34 Try.inf103 rfl rfl (by omega)))) ?_
    refine RQ.opd 27 rfl rfl rfl (Yld.plain (v := .pointer (some ⟨b, o + (q) * 4 + 0, none⟩)) rfl (fun _ _ => (X_fieldAddr Try.underlying103 rfl Try.inf3 rfl rfl))) ?_
    refine RQ.opd 28 rfl rfl rfl (Yld.K (v := .int .i64 l[q].tick) rfl (fun _ hk => (X_load Try.underlying3 rfl rfl (hk.cell (K4.cell (hck 0 _ rfl) (fun h => h)) (fun h => h))))) ?_
    refine RQ.opd 29 rfl rfl rfl (Yld.plain (v := .int .i64 ((t : Int) - l[q].tick)) rfl (fun _ _ => (X_sub rfl rfl (by omega) rfl))) ?_
    refine RQ.opd 30 rfl rfl rfl (Yld.plain (v := .int .i64 ((l[q].dir : Int) * ((t : Int) - l[q].tick))) rfl (fun _ _ => (X_mul rfl rfl (by omega) rfl))) ?_
    refine RQ.opd 31 rfl rfl rfl (Yld.plain (v := .int .i64 ((l[q].pos : Int) + ((l[q].dir : Int) * ((t : Int) - l[q].tick)))) rfl (fun _ _ => (X_add rfl rfl (by omega) rfl))) ?_
    refine RQ.opd 32 rfl rfl rfl (Yld.plain (v := .slice (some ⟨b, o, none⟩) l.length cap) rfl (fun _ _ => (X_move rfl))) ?_
    refine RQ.opd 33 rfl rfl rfl (Yld.plain (v := .int .i64 (q : Nat)) rfl (fun _ _ => (X_move rfl))) ?_
    refine RQ.opd 34 rfl rfl rfl (Yld.plain (v := .pointer (some ⟨b, o + (q) * 4, none⟩)) rfl (fun _ _ => (X_indexAddr Try.underlying34 Try.inf103 rfl rfl (by omega)))) ?_
    refine RQ.opd 35 rfl rfl rfl (Yld.plain (v := .pointer (some ⟨b, o + (q) * 4 + 3, none⟩)) rfl (fun _ _ => (X_fieldAddr Try.underlying103 rfl Try.inf4 rfl rfl))) ?_
    refine RQ.opd 36 rfl rfl rfl (Yld.K (v := .bool l[q].door) rfl (fun _ hk => (X_load Try.underlying4 rfl rfl (hk.cell (K4.cell (hck 3 _ rfl) (fun h => h)) (fun h => h))))) ?_
    refine RQ.opd 4 rfl rfl rfl (Yld.plain (v := .int .i64 ((l[q].pos : Int) + ((l[q].dir : Int) * ((t : Int) - l[q].tick)))) rfl (fun _ _ => (X_assign rfl))) ?_
    refine RQ.opd 5 rfl rfl rfl (Yld.plain (v := .bool l[q].door) rfl (fun _ _ => (X_assign rfl))) ?_
    refine RQ.opd 6 rfl rfl rfl (Yld.plain (v := .bool true) rfl (fun _ _ => (X_assign rfl))) ?_
    refine RQ.nil ?_
    clear hcl hS
    intro hcl hS
    refine RD.done (by kernel_rfl) hcl hS ?_
    refine RW.ret ?_
    refine ret3 (.inl rfl) rfl ?_
    refine ⟨l[q].door, true, ?_, K4⟩
    obtain rfl : p = q + 1 := by omega
    rw [hU.pos hp]
    rfl

set_option maxRecDepth 10000 in
theorem where_any (A A2 : Option Addr) (n cap c2 : Nat) (used : Int) (ls : List (List Leg)) (hs : List Value) (w : World) (tick : Int) (ht : -1073741824 ≤ tick ∧ tick ≤ 1073741824) (hn : ls.length ≤ 1000000) (hls : LegsAt w A2 ls hs) (hg : ∀ i (h : i < ls.length), LegsOk ls[i]) :
    Calls Try.prog 14 #[.agg #[.slice A n cap, .slice A2 ls.length c2, .int .i64 used], .int .i64 tick] w fun e w' => ∃ v, e = .returned v ∧ w'.ownsRow 0 3 1 v ls.length (ints (ls.map (posAt · tick))) ∧ Keeps none_ w w' ∧ (∀ g, v.ownBlock = some g → w.heap.size ≤ g) := by
  refine calls_of_RW Try.func14 rfl (Nat.le_of_ble_eq_true rfl) ?_
  refine RW.seq ?_
  refine RW.region ?_
  refine RL.box (v := .agg #[.slice A n cap, .slice A2 ls.length c2, .int .i64 used]) rfl rfl rfl ⟨rfl, rfl⟩ (fun B1 w2 ge5 hB4 K3 => ?_)
  have gb_B1 : w.heap.size ≤ B1 := ge5
  have sz6 := K3.size
  refine RL.opd (v := .slice none 0 0) 4 rfl rfl rfl (X_assign rfl) ?_
  refine RL.nil ?_
  refine RW.seq ?_
  refine RW.region ?_
  refine RL.opd (v := .slice none 0 0) 5 rfl rfl rfl (X_assign rfl) ?_
  refine RL.nil ?_
  refine RW.seq ?_
  refine RW.seq ?_
  refine RW.region ?_
  refine RL.opd (v := .pointer (some ⟨B1, 1, none⟩)) 11 rfl rfl rfl (X_fieldAddr Try.underlying25 rfl Try.inf23 rfl rfl) ?_
  refine RL.opd (v := .slice A2 ls.length c2) 12 rfl rfl rfl (X_load Try.underlying23 rfl rfl (hB4.cell _)) ?_
  refine RL.opd (v := .int .i64 (ls.length : Nat)) 13 rfl rfl rfl (X_len Try.underlying23 rfl) ?_
  refine RL.opd (v := .int .i64 0) 14 rfl rfl rfl (X_move rfl) ?_
  refine RL.nil ?_
  refine RW.block ?_
  refine RW.loop (fun gk φ wr => (φ 1 = .int .i64 tick ∧ φ 12 = .slice A2 ls.length c2 ∧ φ 13 = .int .i64 (ls.length : Nat)) ∧ ∃ (v : Value) (k : Nat), φ 5 = v ∧ φ 14 = .int .i64 (k : Nat) ∧ k ≤ ls.length ∧ gk + k = ls.length ∧ wr.ownsRow 0 3 1 v k (ints ((ls.take k).map (posAt · tick))) ∧ Keeps none_ w wr ∧ (∀ g, v.ownBlock = some g → w.heap.size ≤ g)) ls.length ?_ ?_
  · exact ⟨⟨rfl, rfl, rfl⟩, _, 0, rfl, rfl, Nat.zero_le _, rfl, World.ownsRow_nil _ _ _ _, K3, (fun g h => by cases h)⟩
  · rintro gk1 φ wr1 ⟨⟨h_1, h_12, h_13⟩, v, k, h_5, h_14, hk, hgk, hown, hK, hge⟩
    obtain ⟨φ0, rfl⟩ : ∃ φ0, φ = upd (upd (upd (upd (upd φ0 1 (.int .i64 tick)) 12 (.slice A2 ls.length c2)) 13 (.int .i64 (ls.length : Nat))) 5 (v)) 14 (.int .i64 (k : Nat)) := ⟨φ, by rw [upd_of h_1, upd_of h_12, upd_of h_13, upd_of h_5, upd_of h_14]⟩
    clear h_1 h_12 h_13 h_5 h_14
    have hsz := hK.size
    refine RW.seq ?_
    refine RW.region ?_
    refine RL.opd (v := .bool (decide (((k : Nat) : Int) < (ls.length : Nat)))) 15 rfl rfl rfl (X_lss rfl rfl) ?_
    refine RL.nil ?_
    refine RW.seq ?_
    refine RW.cond rfl (fun hlt => ?_) (fun hlt => ?_)
    · -- slot 15: True
      refine RW.skip ?_
      refine RW.seq ?_
      refine RW.block ?_
      refine RW.seq ?_
      have hlt := of_decide_eq_true hlt
      have hlt : k < ls.length := by omega
      obtain ⟨b, o, B, c, rfl, hck, hrow⟩ := hls.get hlt
      have hok := hg k hlt
      refine RW.region ?_
      refine RL.opd (v := .pointer (some ⟨b, o + (k) * 1, none⟩)) 16 rfl rfl rfl (X_indexAddr Try.underlying23 Try.inf34 rfl rfl (by omega)) ?_
      refine RL.opd (v := .slice B ls[k].length c) 17 rfl rfl rfl (X_load Try.underlying34 rfl rfl (hK.cell hck (fun h => h))) ?_
      refine RL.opd (v := .slice B ls[k].length c) 7 rfl rfl rfl (X_assign rfl) ?_
      refine RL.nil ?_
      refine RW.seq ?_
      refine RW.region ?_
      refine RL.opd (v := .slice B ls[k].length c) 19 rfl rfl rfl (X_move rfl) ?_
      refine RL.opd (v := .int .i64 tick) 20 rfl rfl rfl (X_move rfl) ?_
      refine RL.call rfl (X_callF Try.en40 rfl) ⟨rfl, rfl⟩ (at_any B c ls[k] wr1 tick ht (by have := hok.len; omega) (hrow.keep hK (apart_none _)) hok.rises hok.ok) ?_
      rintro e8 w7 ⟨d, bb, rfl, hKc⟩
      refine ⟨_, rfl, ?_⟩
      have sz9 := hKc.size
      replace hown := hKc.owns hown (fun _ _ h => h)
      have KK10 := hK.trans hKc
      refine RL.opd 18 rfl rfl rfl (X_move rfl) ?_
      refine RL.opd 22 rfl rfl rfl (X_extract rfl rfl) ?_
      refine RL.opd 23 rfl rfl rfl (X_extract rfl rfl) ?_
      refine RL.opd 24 rfl rfl rfl (X_extract rfl rfl) ?_
      refine RL.opd 8 rfl rfl rfl (X_assign rfl) ?_
      refine RL.opd 9 rfl rfl rfl (X_assign rfl) ?_
      refine RL.opd 10 rfl rfl rfl (X_assign rfl) ?_
      refine RL.nil ?_
      refine RW.region ?_
      refine RL.opd (v := v) 25 rfl rfl rfl (X_move rfl) ?_
      refine RL.opd 26 rfl rfl rfl (X_move rfl) ?_
      refine RL.lit1 rfl rfl ⟨rfl, rfl⟩ Try.underlying27 Try.inf3 rfl (by decide) rfl rfl (fun B11 w12 ge15 hB14 K13 => ?_)
      have gb_B11 : w.heap.size ≤ B11 := Nat.le_trans KK10.size ge15
      have ne_v_B11 : ∀ g, Value.ownBlock (v) = some g → g ≠ B11 := fun g hg => by have := owns_lt hown g hg; omega
      have sz16 := K13.size
      replace hown := K13.owns hown (fun _ _ h => h)
      have KK17 := KK10.trans K13
      refine RL.append rfl rfl ⟨rfl, rfl⟩ Try.underlying27 Try.inf3 rfl rfl hown rfl rfl hB14.news rfl (by omega) (by omega) (fun v18 w19 ho21 K20 hl22 => ?_)
      have sz23 := K20.size
      have ne_v_B11_ : ∀ g, Value.ownBlock (v18) = some g → g ≠ B11 := by
        intro g hg
        rcases hl22 with e | e
        · exact ne_v_B11 g (e ▸ hg)
        · rw [e] at hg; cases hg; have := hB14.lt; omega
      replace hB14 := K20.at_ hB14 (fun h => ne_v_B11 B11 h rfl)
      replace ne_v_B11 := ne_v_B11_
      have hge24 : ∀ g, Value.ownBlock (v18) = some g → w.heap.size ≤ g := by
        intro g hg
        rcases hl22 with e | e
        · exact hge g (e ▸ hg)
        · rw [e] at hg; cases hg; exact KK17.size
      have KK25 := KK17.trans_new K20 (fun i hi h => by have := hge i h; omega)
      refine RL.opd (v := v18) 5 rfl rfl rfl (X_assign rfl) ?_
      refine RL.nil ?_
      refine RW.region ?_
      refine RL.opd (v := .int .i64 (((k : Nat) : Int) + 1)) 29 rfl rfl rfl (X_add rfl rfl (by omega) rfl) ?_
      refine RL.opd (v := .int .i64 (((k : Nat) : Int) + 1)) 14 rfl rfl rfl (X_move rfl) ?_
      refine RL.nil ?_
      refine ⟨gk1 - 1, by omega, ⟨rfl, rfl, rfl⟩, ?_⟩
      refine ⟨v18, k + 1, rfl, rfl, by omega, by omega, ?_, KK25, hge24⟩
      rw [List.take_succ_eq_append_getElem hlt, List.map_append, ints_append]
      exact ho21
    · -- slot 15: False
      refine RW.exit ?_
      refine RW.seq ?_
      refine RW.region ?_
      refine RL.opd (v := v) 30 rfl rfl rfl (X_move rfl) ?_
      refine RL.opd (v := v) 4 rfl rfl rfl (X_assign rfl) ?_
      refine RL.nil ?_
      refine RW.ret ?_
      refine ret1 (.inl rfl) rfl ?_
      obtain rfl : k = ls.length := by have := of_decide_eq_false hlt; omega
      rw [List.take_length] at hown
      exact ⟨v, rfl, hown, hK, hge⟩

end Go.Proofs
