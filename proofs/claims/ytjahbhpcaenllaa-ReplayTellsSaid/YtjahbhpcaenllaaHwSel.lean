/- Rows of those of whom a test holds: who rides, who waits, who is done. -/
import Derived.Test.YtjahbhpcaenllaaHwTypes
import Derived.Test.YtjahbhpcaenllaaHwReplayLaw
namespace Hw.Sym
end Hw.Sym
namespace Go.Proofs
open Go.RowKit Go.Hw Hw.Sym
set_option maxRecDepth 10000 in
theorem load_any (A : Option Addr) (cap : Nat) (l : List Trip) (w : World) (car tick : Int) (hn : l.length ≤ 1000000) (hT : Row w A (l.flatMap Trip.enc)) :
    Calls Try.prog 37 #[.slice A l.length cap, .int .i64 car, .int .i64 tick] w fun e w' => ∃ v, e = .returned v ∧ w'.ownsRow 0 3 1 v (sel (loadB car tick) l).length (ints (sel (loadB car tick) l)) ∧ Keeps none_ w w' ∧ (∀ g, v.ownBlock = some g → w.heap.size ≤ g) := by
  refine calls_of_RW Try.func37 rfl (Nat.le_of_ble_eq_true rfl) ?_
  refine RW.seq ?_
  refine RW.region ?_
  refine RL.opd (v := .slice none 0 0) 6 rfl rfl rfl (X_assign rfl) ?_
  refine RL.nil ?_
  refine RW.seq ?_
  refine RW.region ?_
  refine RL.opd (v := .slice none 0 0) 7 rfl rfl rfl (X_assign rfl) ?_
  refine RL.nil ?_
  refine RW.seq ?_
  refine RW.seq ?_
  refine RW.region ?_
  refine RL.opd (v := .slice A l.length cap) 10 rfl rfl rfl (X_move rfl) ?_
  refine RL.opd (v := .int .i64 (l.length : Nat)) 11 rfl rfl rfl (X_len Try.underlying22 rfl) ?_
  refine RL.opd (v := .int .i64 0) 12 rfl rfl rfl (X_move rfl) ?_
  refine RL.nil ?_
  refine RW.block ?_
  refine RW.loop (fun gk φ wr => (φ 1 = .int .i64 car ∧ φ 2 = .int .i64 tick ∧ φ 10 = .slice A l.length cap ∧ φ 11 = .int .i64 (l.length : Nat)) ∧ ∃ (v : Value) (k : Nat), φ 7 = v ∧ φ 12 = .int .i64 (k : Nat) ∧ k ≤ l.length ∧ gk + k = l.length ∧ wr.ownsRow 0 3 1 v (sel (loadB car tick) (l.take k)).length (ints (sel (loadB car tick) (l.take k))) ∧ Keeps none_ w wr ∧ (∀ g, v.ownBlock = some g → w.heap.size ≤ g)) l.length ?_ ?_
  · exact ⟨⟨rfl, rfl, rfl, rfl⟩, _, 0, rfl, rfl, Nat.zero_le _, rfl, World.ownsRow_nil _ _ _ _, Keeps.refl _ _, (fun g h => by cases h)⟩
  · rintro gk1 φ wr1 ⟨⟨h_1, h_2, h_10, h_11⟩, v, k, h_7, h_12, hk, hgk, hown, hK, hge⟩
    obtain ⟨φ0, rfl⟩ : ∃ φ0, φ = upd (upd (upd (upd (upd (upd φ0 1 (.int .i64 car)) 2 (.int .i64 tick)) 10 (.slice A l.length cap)) 11 (.int .i64 (l.length : Nat))) 7 (v)) 12 (.int .i64 (k : Nat)) := ⟨φ, by rw [upd_of h_1, upd_of h_2, upd_of h_10, upd_of h_11, upd_of h_7, upd_of h_12]⟩
    clear h_1 h_2 h_10 h_11 h_7 h_12
    have hsz := hK.size
    refine RW.seq ?_
    refine RW.region ?_
    refine RL.opd (v := .bool (decide (((k : Nat) : Int) < (l.length : Nat)))) 13 rfl rfl rfl (X_lss rfl rfl) ?_
    refine RL.nil ?_
    refine RW.seq ?_
    refine RW.cond rfl (fun hlt => ?_) (fun hlt => ?_)
    · -- slot 13: True
      refine RW.skip ?_
      refine RW.seq ?_
      refine RW.block ?_
      refine RW.seq ?_
      have hlt := of_decide_eq_true hlt
      have hlt : k < l.length := by omega
      obtain ⟨b, o, rfl, hc⟩ := hT.elem 6 (fun _ => rfl) hlt
      have hck := hc k hlt
      clear hc
      refine RW.region ?_
      refine RL.opd (v := .pointer (some ⟨b, o + (k) * 7, none⟩)) 14 rfl rfl rfl (X_indexAddr Try.underlying22 Try.inf29 rfl rfl (by omega)) ?_
      refine RL.opd 15 rfl rfl rfl (X_loadAgg (l[k].enc) Try.underlying29 rfl Try.inf29 rfl (fun j u hu => (hK.cell (hck j u hu) (fun h => h)))) ?_
      refine RL.alloc rfl rfl Try.inf29 ⟨rfl, rfl⟩ (fun B1 w2 ge5 hB4 K3 => ?_)
      have gb_B1 : w.heap.size ≤ B1 := Nat.le_trans hK.size ge5
      have ne_v_B1 : ∀ g, Value.ownBlock (v) = some g → g ≠ B1 := fun g hg => by have := owns_lt hown g hg; omega
      have sz6 := K3.size
      replace hown := K3.owns hown (fun _ _ h => h)
      have KK7 := hK.trans K3
      refine RL.storeAt rfl rfl rfl Try.inf29 rfl rfl rfl rfl hB4 (Nat.le_of_ble_eq_true rfl) (fun w8 hB10 K9 => ?_)
      try (rw [splice_all rfl] at hB10)
      replace hown := K9.owns hown (fun g hg h => ne_v_B1 g hg h)
      have KK11 := KK7.trans_new K9 (fun i hi h => absurd h (by omega))
      refine RL.nil ?_
      refine RW.seq ?_
      refine RW.region ?_
      refine RL.opd (v := .pointer (some ⟨B1, 4, none⟩)) 16 rfl rfl rfl (X_fieldAddr Try.underlying29 rfl Try.inf3 rfl rfl) ?_
      refine RL.opd 17 rfl rfl rfl (X_load Try.underlying3 rfl rfl (hB10.cell _)) ?_
      refine RL.opd (v := .int .i64 car) 18 rfl rfl rfl (X_move rfl) ?_
      refine RL.opd 19 rfl rfl rfl (X_eql rfl rfl) ?_
      refine RL.opd 20 rfl rfl rfl (X_move rfl) ?_
      refine RL.gopd (v := .pointer (some ⟨B1, 5, none⟩)) 21 rfl rfl rfl rfl (fun hg => (X_fieldAddr Try.underlying29 rfl Try.inf3 rfl rfl)) rfl rfl ?_
      refine RL.gopd 22 rfl rfl rfl rfl (fun hg => (X_load Try.underlying3 rfl (gb_on hg) (hB10.cell _))) rfl rfl ?_
      refine RL.gopd 23 rfl rfl rfl rfl (fun hg => (X_geq (gb_on hg) rfl)) rfl rfl ?_
      refine RL.opd 24 rfl rfl rfl (X_pickB rfl (fun h => gbT h) (fun _ => rfl)) ?_
      refine RL.opd 25 rfl rfl rfl (X_move rfl) ?_
      refine RL.gopd (v := .pointer (some ⟨B1, 5, none⟩)) 26 rfl rfl rfl rfl (fun hg => (X_fieldAddr Try.underlying29 rfl Try.inf3 rfl rfl)) rfl rfl ?_
      refine RL.gopd 27 rfl rfl rfl rfl (fun hg => (X_load Try.underlying3 rfl (gb_on hg) (hB10.cell _))) rfl rfl ?_
      refine RL.gopd (v := .int .i64 tick) 28 rfl rfl rfl rfl (fun hg => (X_move rfl)) rfl rfl ?_
      refine RL.gopd 29 rfl rfl rfl rfl (fun hg => (X_leq (gb_on hg) (gb_on hg))) rfl rfl ?_
      refine RL.opd 30 rfl rfl rfl (X_pickB rfl (fun h => gbT h) (fun _ => rfl)) ?_
      refine RL.opd 31 rfl rfl rfl (X_move rfl) ?_
      refine RL.gopd (v := .pointer (some ⟨B1, 6, none⟩)) 32 rfl rfl rfl rfl (fun hg => (X_fieldAddr Try.underlying29 rfl Try.inf3 rfl rfl)) rfl rfl ?_
      refine RL.gopd 33 rfl rfl rfl rfl (fun hg => (X_load Try.underlying3 rfl (gb_on hg) (hB10.cell _))) rfl rfl ?_
      refine RL.gopd 34 rfl rfl rfl rfl (fun hg => (X_lss (gb_on hg) rfl)) rfl rfl ?_
      refine RL.gopd 35 rfl rfl rfl rfl (fun hg => (X_move (gb_on hg))) rfl rfl ?_
      refine RL.gop2d (v := .pointer (some ⟨B1, 6, none⟩)) 36 rfl rfl rfl rfl (fun hg => (X_fieldAddr Try.underlying29 rfl Try.inf3 rfl rfl)) rfl rfl ?_
      refine RL.gop2d 37 rfl rfl rfl rfl (fun hg => (X_load Try.underlying3 rfl (gb_on hg) (hB10.cell _))) rfl rfl ?_
      refine RL.gop2d (v := .int .i64 tick) 38 rfl rfl rfl rfl (fun hg => (X_move rfl)) rfl rfl ?_
      refine RL.gop2d 39 rfl rfl rfl rfl (fun hg => (X_gtr (gb_on hg) (gb_on hg))) rfl rfl ?_
      refine RL.gopd 40 rfl rfl rfl rfl (fun hg => (X_pickB (gb_on hg) (fun _ => rfl) (fun h => gb2F hg h))) rfl rfl ?_
      refine RL.opd 41 rfl rfl rfl (X_pickB rfl (fun h => gbT h) (fun _ => rfl)) ?_
      refine RL.nil ?_
      refine RW.cond rfl (fun hc => ?_) (fun hc => ?_)
      · -- slot 41: True
        refine RW.region ?_
        refine RL.opd (v := v) 42 rfl rfl rfl (X_move rfl) ?_
        refine RL.opd (v := .pointer (some ⟨B1, 0, none⟩)) 43 rfl rfl rfl (X_fieldAddr Try.underlying29 rfl Try.inf3 rfl rfl) ?_
        refine RL.opd 44 rfl rfl rfl (X_load Try.underlying3 rfl rfl (hB10.cell _)) ?_
        refine RL.lit1 rfl rfl ⟨rfl, rfl⟩ Try.underlying27 Try.inf3 rfl (by decide) rfl rfl (fun B12 w13 ge16 hB15 K14 => ?_)
        have gb_B12 : w.heap.size ≤ B12 := Nat.le_trans KK11.size ge16
        have ne17 : B1 ≠ B12 := by have := hB10.lt; omega
        have ne_v_B12 : ∀ g, Value.ownBlock (v) = some g → g ≠ B12 := fun g hg => by have := owns_lt hown g hg; omega
        have sz18 := K14.size
        replace hB10 := K14.at_ hB10 (fun h => h)
        replace hown := K14.owns hown (fun _ _ h => h)
        have KK19 := KK11.trans K14
        refine RL.append rfl rfl ⟨rfl, rfl⟩ Try.underlying27 Try.inf3 rfl rfl hown rfl rfl hB15.news rfl (by have := sel_len (loadB car tick) l k; omega) (by have := sel_len (loadB car tick) l k; omega) (fun v20 w21 ho23 K22 hl24 => ?_)
        have sz25 := K22.size
        have ne_v_B1_ : ∀ g, Value.ownBlock (v20) = some g → g ≠ B1 := by
          intro g hg
          rcases hl24 with e | e
          · exact ne_v_B1 g (e ▸ hg)
          · rw [e] at hg; cases hg; have := hB10.lt; omega
        replace hB10 := K22.at_ hB10 (fun h => ne_v_B1 B1 h rfl)
        replace ne_v_B1 := ne_v_B1_
        have ne_v_B12_ : ∀ g, Value.ownBlock (v20) = some g → g ≠ B12 := by
          intro g hg
          rcases hl24 with e | e
          · exact ne_v_B12 g (e ▸ hg)
          · rw [e] at hg; cases hg; have := hB15.lt; omega
        replace hB15 := K22.at_ hB15 (fun h => ne_v_B12 B12 h rfl)
        replace ne_v_B12 := ne_v_B12_
        have hge26 : ∀ g, Value.ownBlock (v20) = some g → w.heap.size ≤ g := by
          intro g hg
          rcases hl24 with e | e
          · exact hge g (e ▸ hg)
          · rw [e] at hg; cases hg; exact KK19.size
        have KK27 := KK19.trans_new K22 (fun i hi h => by have := hge i h; omega)
        refine RL.opd (v := v20) 7 rfl rfl rfl (X_assign rfl) ?_
        refine RL.nil ?_
        refine RW.region ?_
        refine RL.opd (v := .int .i64 (((k : Nat) : Int) + 1)) 47 rfl rfl rfl (X_add rfl rfl (by omega) rfl) ?_
        refine RL.opd (v := .int .i64 (((k : Nat) : Int) + 1)) 12 rfl rfl rfl (X_move rfl) ?_
        refine RL.nil ?_
        refine ⟨gk1 - 1, by omega, ⟨rfl, rfl, rfl, rfl⟩, ?_⟩
        have hsn := sel_snoc (loadB car tick) l k hlt
        have hb : (loadB car tick) l[k] = true := hc
        rw [hb, cond_true] at hsn
        refine ⟨v20, k + 1, rfl, rfl, by omega, by omega, ?_, KK27, hge26⟩
        rw [hsn, List.length_append, ints_append]; exact ho23
      · -- slot 41: False
        refine RW.skip ?_
        refine RW.region ?_
        refine RL.opd (v := .int .i64 (((k : Nat) : Int) + 1)) 47 rfl rfl rfl (X_add rfl rfl (by omega) rfl) ?_
        refine RL.opd (v := .int .i64 (((k : Nat) : Int) + 1)) 12 rfl rfl rfl (X_move rfl) ?_
        refine RL.nil ?_
        refine ⟨gk1 - 1, by omega, ⟨rfl, rfl, rfl, rfl⟩, ?_⟩
        have hsn := sel_snoc (loadB car tick) l k hlt
        have hb : (loadB car tick) l[k] = false := hc
        rw [hb, cond_false, List.append_nil] at hsn
        refine ⟨v, k + 1, rfl, rfl, by omega, by omega, ?_, KK11, hge⟩
        rw [hsn]; exact hown
    · -- slot 13: False
      refine RW.exit ?_
      refine RW.seq ?_
      refine RW.region ?_
      refine RL.opd (v := v) 48 rfl rfl rfl (X_move rfl) ?_
      refine RL.opd (v := v) 6 rfl rfl rfl (X_assign rfl) ?_
      refine RL.nil ?_
      refine RW.ret ?_
      refine ret1 (.inl rfl) rfl ?_
      obtain rfl : k = l.length := by have := of_decide_eq_false hlt; omega
      rw [List.take_length] at hown
      exact ⟨v, rfl, hown, hK, hge⟩

set_option maxRecDepth 10000 in
theorem waiting_any (A A2 : Option Addr) (cap n2 c2 : Nat) (used : Int) (l : List Trip) (w : World) (tick : Int) (hn : l.length ≤ 1000000) (hT : Row w A (l.flatMap Trip.enc)) :
    Calls Try.prog 12 #[.agg #[.slice A l.length cap, .slice A2 n2 c2, .int .i64 used], .int .i64 tick] w fun e w' => ∃ v, e = .returned v ∧ w'.ownsRow 0 3 1 v (sel (waitB tick) l).length (ints (sel (waitB tick) l)) ∧ Keeps none_ w w' ∧ (∀ g, v.ownBlock = some g → w.heap.size ≤ g) := by
  refine calls_of_RW Try.func12 rfl (Nat.le_of_ble_eq_true rfl) ?_
  refine RW.seq ?_
  refine RW.region ?_
  refine RL.box (v := .agg #[.slice A l.length cap, .slice A2 n2 c2, .int .i64 used]) rfl rfl rfl ⟨rfl, rfl⟩ (fun B1 w2 ge5 hB4 K3 => ?_)
  have gb_B1 : w.heap.size ≤ B1 := ge5
  have sz6 := K3.size
  refine RL.opd (v := .slice none 0 0) 4 rfl rfl rfl (X_assign rfl) ?_
  refine RL.nil ?_
  refine RW.seq ?_
  refine RW.region ?_
  refine RL.opd (v := .slice none 0 0) 5 rfl rfl rfl (X_assign rfl) ?_
  refine RL.nil ?_
  refine RW.seq ?_
  refine RW.seq ?_
  refine RW.region ?_
  refine RL.opd (v := .pointer (some ⟨B1, 0, none⟩)) 8 rfl rfl rfl (X_fieldAddr Try.underlying25 rfl Try.inf22 rfl rfl) ?_
  refine RL.opd (v := .slice A l.length cap) 9 rfl rfl rfl (X_load Try.underlying22 rfl rfl (hB4.cell _)) ?_
  refine RL.opd (v := .int .i64 (l.length : Nat)) 10 rfl rfl rfl (X_len Try.underlying22 rfl) ?_
  refine RL.opd (v := .int .i64 0) 11 rfl rfl rfl (X_move rfl) ?_
  refine RL.nil ?_
  refine RW.block ?_
  refine RW.loop (fun gk φ wr => (φ 1 = .int .i64 tick ∧ φ 9 = .slice A l.length cap ∧ φ 10 = .int .i64 (l.length : Nat)) ∧ ∃ (v : Value) (k : Nat), φ 5 = v ∧ φ 11 = .int .i64 (k : Nat) ∧ k ≤ l.length ∧ gk + k = l.length ∧ wr.ownsRow 0 3 1 v (sel (waitB tick) (l.take k)).length (ints (sel (waitB tick) (l.take k))) ∧ Keeps none_ w wr ∧ (∀ g, v.ownBlock = some g → w.heap.size ≤ g)) l.length ?_ ?_
  · exact ⟨⟨rfl, rfl, rfl⟩, _, 0, rfl, rfl, Nat.zero_le _, rfl, World.ownsRow_nil _ _ _ _, K3, (fun g h => by cases h)⟩
  · rintro gk1 φ wr1 ⟨⟨h_1, h_9, h_10⟩, v, k, h_5, h_11, hk, hgk, hown, hK, hge⟩
    obtain ⟨φ0, rfl⟩ : ∃ φ0, φ = upd (upd (upd (upd (upd φ0 1 (.int .i64 tick)) 9 (.slice A l.length cap)) 10 (.int .i64 (l.length : Nat))) 5 (v)) 11 (.int .i64 (k : Nat)) := ⟨φ, by rw [upd_of h_1, upd_of h_9, upd_of h_10, upd_of h_5, upd_of h_11]⟩
    clear h_1 h_9 h_10 h_5 h_11
    have hsz := hK.size
    refine RW.seq ?_
    refine RW.region ?_
    refine RL.opd (v := .bool (decide (((k : Nat) : Int) < (l.length : Nat)))) 12 rfl rfl rfl (X_lss rfl rfl) ?_
    refine RL.nil ?_
    refine RW.seq ?_
    refine RW.cond rfl (fun hlt => ?_) (fun hlt => ?_)
    · -- slot 12: True
      refine RW.skip ?_
      refine RW.seq ?_
      refine RW.block ?_
      refine RW.seq ?_
      have hlt := of_decide_eq_true hlt
      have hlt : k < l.length := by omega
      obtain ⟨b, o, rfl, hc⟩ := hT.elem 6 (fun _ => rfl) hlt
      have hck := hc k hlt
      clear hc
      refine RW.region ?_
      refine RL.opd (v := .pointer (some ⟨b, o + (k) * 7, none⟩)) 13 rfl rfl rfl (X_indexAddr Try.underlying22 Try.inf29 rfl rfl (by omega)) ?_
      refine RL.opd 14 rfl rfl rfl (X_loadAgg (l[k].enc) Try.underlying29 rfl Try.inf29 rfl (fun j u hu => (hK.cell (hck j u hu) (fun h => h)))) ?_
      refine RL.alloc rfl rfl Try.inf29 ⟨rfl, rfl⟩ (fun B7 w8 ge11 hB10 K9 => ?_)
      have gb_B7 : w.heap.size ≤ B7 := Nat.le_trans hK.size ge11
      have ne_v_B7 : ∀ g, Value.ownBlock (v) = some g → g ≠ B7 := fun g hg => by have := owns_lt hown g hg; omega
      have sz12 := K9.size
      replace hown := K9.owns hown (fun _ _ h => h)
      have KK13 := hK.trans K9
      refine RL.storeAt rfl rfl rfl Try.inf29 rfl rfl rfl rfl hB10 (Nat.le_of_ble_eq_true rfl) (fun w14 hB16 K15 => ?_)
      try (rw [splice_all rfl] at hB16)
      replace hown := K15.owns hown (fun g hg h => ne_v_B7 g hg h)
      have KK17 := KK13.trans_new K15 (fun i hi h => absurd h (by omega))
      refine RL.nil ?_
      refine RW.seq ?_
      refine RW.region ?_
      refine RL.opd (v := .pointer (some ⟨B7, 1, none⟩)) 15 rfl rfl rfl (X_fieldAddr Try.underlying29 rfl Try.inf3 rfl rfl) ?_
      refine RL.opd 16 rfl rfl rfl (X_load Try.underlying3 rfl rfl (hB16.cell _)) ?_
      refine RL.opd (v := .int .i64 tick) 17 rfl rfl rfl (X_move rfl) ?_
      refine RL.opd 18 rfl rfl rfl (X_leq rfl rfl) ?_
      refine RL.opd 19 rfl rfl rfl (X_move rfl) ?_
      refine RL.gopd (v := .pointer (some ⟨B7, 5, none⟩)) 20 rfl rfl rfl rfl (fun hg => (X_fieldAddr Try.underlying29 rfl Try.inf3 rfl rfl)) rfl rfl ?_
      refine RL.gopd 21 rfl rfl rfl rfl (fun hg => (X_load Try.underlying3 rfl (gb_on hg) (hB16.cell _))) rfl rfl ?_
      refine RL.gopd 22 rfl rfl rfl rfl (fun hg => (X_lss (gb_on hg) rfl)) rfl rfl ?_
      refine RL.gopd 23 rfl rfl rfl rfl (fun hg => (X_move (gb_on hg))) rfl rfl ?_
      refine RL.gop2d (v := .pointer (some ⟨B7, 5, none⟩)) 24 rfl rfl rfl rfl (fun hg => (X_fieldAddr Try.underlying29 rfl Try.inf3 rfl rfl)) rfl rfl ?_
      refine RL.gop2d 25 rfl rfl rfl rfl (fun hg => (X_load Try.underlying3 rfl (gb_on hg) (hB16.cell _))) rfl rfl ?_
      refine RL.gop2d (v := .int .i64 tick) 26 rfl rfl rfl rfl (fun hg => (X_move rfl)) rfl rfl ?_
      refine RL.gop2d 27 rfl rfl rfl rfl (fun hg => (X_gtr (gb_on hg) (gb_on hg))) rfl rfl ?_
      refine RL.gopd 28 rfl rfl rfl rfl (fun hg => (X_pickB (gb_on hg) (fun _ => rfl) (fun h => gb2F hg h))) rfl rfl ?_
      refine RL.opd 29 rfl rfl rfl (X_pickB rfl (fun h => gbT h) (fun _ => rfl)) ?_
      refine RL.nil ?_
      refine RW.cond rfl (fun hc => ?_) (fun hc => ?_)
      · -- slot 29: True
        refine RW.region ?_
        refine RL.opd (v := v) 30 rfl rfl rfl (X_move rfl) ?_
        refine RL.opd (v := .pointer (some ⟨B7, 0, none⟩)) 31 rfl rfl rfl (X_fieldAddr Try.underlying29 rfl Try.inf3 rfl rfl) ?_
        refine RL.opd 32 rfl rfl rfl (X_load Try.underlying3 rfl rfl (hB16.cell _)) ?_
        refine RL.lit1 rfl rfl ⟨rfl, rfl⟩ Try.underlying27 Try.inf3 rfl (by decide) rfl rfl (fun B18 w19 ge22 hB21 K20 => ?_)
        have gb_B18 : w.heap.size ≤ B18 := Nat.le_trans KK17.size ge22
        have ne23 : B7 ≠ B18 := by have := hB16.lt; omega
        have ne_v_B18 : ∀ g, Value.ownBlock (v) = some g → g ≠ B18 := fun g hg => by have := owns_lt hown g hg; omega
        have sz24 := K20.size
        replace hB16 := K20.at_ hB16 (fun h => h)
        replace hown := K20.owns hown (fun _ _ h => h)
        have KK25 := KK17.trans K20
        refine RL.append rfl rfl ⟨rfl, rfl⟩ Try.underlying27 Try.inf3 rfl rfl hown rfl rfl hB21.news rfl (by have := sel_len (waitB tick) l k; omega) (by have := sel_len (waitB tick) l k; omega) (fun v26 w27 ho29 K28 hl30 => ?_)
        have sz31 := K28.size
        have ne_v_B7_ : ∀ g, Value.ownBlock (v26) = some g → g ≠ B7 := by
          intro g hg
          rcases hl30 with e | e
          · exact ne_v_B7 g (e ▸ hg)
          · rw [e] at hg; cases hg; have := hB16.lt; omega
        replace hB16 := K28.at_ hB16 (fun h => ne_v_B7 B7 h rfl)
        replace ne_v_B7 := ne_v_B7_
        have ne_v_B18_ : ∀ g, Value.ownBlock (v26) = some g → g ≠ B18 := by
          intro g hg
          rcases hl30 with e | e
          · exact ne_v_B18 g (e ▸ hg)
          · rw [e] at hg; cases hg; have := hB21.lt; omega
        replace hB21 := K28.at_ hB21 (fun h => ne_v_B18 B18 h rfl)
        replace ne_v_B18 := ne_v_B18_
        have hge32 : ∀ g, Value.ownBlock (v26) = some g → w.heap.size ≤ g := by
          intro g hg
          rcases hl30 with e | e
          · exact hge g (e ▸ hg)
          · rw [e] at hg; cases hg; exact KK25.size
        have KK33 := KK25.trans_new K28 (fun i hi h => by have := hge i h; omega)
        refine RL.opd (v := v26) 5 rfl rfl rfl (X_assign rfl) ?_
        refine RL.nil ?_
        refine RW.region ?_
        refine RL.opd (v := .int .i64 (((k : Nat) : Int) + 1)) 35 rfl rfl rfl (X_add rfl rfl (by omega) rfl) ?_
        refine RL.opd (v := .int .i64 (((k : Nat) : Int) + 1)) 11 rfl rfl rfl (X_move rfl) ?_
        refine RL.nil ?_
        refine ⟨gk1 - 1, by omega, ⟨rfl, rfl, rfl⟩, ?_⟩
        have hsn := sel_snoc (waitB tick) l k hlt
        have hb : (waitB tick) l[k] = true := hc
        rw [hb, cond_true] at hsn
        refine ⟨v26, k + 1, rfl, rfl, by omega, by omega, ?_, KK33, hge32⟩
        rw [hsn, List.length_append, ints_append]; exact ho29
      · -- slot 29: False
        refine RW.skip ?_
        refine RW.region ?_
        refine RL.opd (v := .int .i64 (((k : Nat) : Int) + 1)) 35 rfl rfl rfl (X_add rfl rfl (by omega) rfl) ?_
        refine RL.opd (v := .int .i64 (((k : Nat) : Int) + 1)) 11 rfl rfl rfl (X_move rfl) ?_
        refine RL.nil ?_
        refine ⟨gk1 - 1, by omega, ⟨rfl, rfl, rfl⟩, ?_⟩
        have hsn := sel_snoc (waitB tick) l k hlt
        have hb : (waitB tick) l[k] = false := hc
        rw [hb, cond_false, List.append_nil] at hsn
        refine ⟨v, k + 1, rfl, rfl, by omega, by omega, ?_, KK17, hge⟩
        rw [hsn]; exact hown
    · -- slot 12: False
      refine RW.exit ?_
      refine RW.seq ?_
      refine RW.region ?_
      refine RL.opd (v := v) 36 rfl rfl rfl (X_move rfl) ?_
      refine RL.opd (v := v) 4 rfl rfl rfl (X_assign rfl) ?_
      refine RL.nil ?_
      refine RW.ret ?_
      refine ret1 (.inl rfl) rfl ?_
      obtain rfl : k = l.length := by have := of_decide_eq_false hlt; omega
      rw [List.take_length] at hown
      exact ⟨v, rfl, hown, hK, hge⟩

set_option maxRecDepth 10000 in
theorem done_any (A A2 : Option Addr) (cap n2 c2 : Nat) (used : Int) (l : List Trip) (w : World) (tick : Int) (hn : l.length ≤ 1000000) (hT : Row w A (l.flatMap Trip.enc)) :
    Calls Try.prog 13 #[.agg #[.slice A l.length cap, .slice A2 n2 c2, .int .i64 used], .int .i64 tick] w fun e w' => ∃ v, e = .returned v ∧ w'.ownsRow 0 3 1 v (sel (doneB tick) l).length (ints (sel (doneB tick) l)) ∧ Keeps none_ w w' ∧ (∀ g, v.ownBlock = some g → w.heap.size ≤ g) := by
  refine calls_of_RW Try.func13 rfl (Nat.le_of_ble_eq_true rfl) ?_
  refine RW.seq ?_
  refine RW.region ?_
  refine RL.box (v := .agg #[.slice A l.length cap, .slice A2 n2 c2, .int .i64 used]) rfl rfl rfl ⟨rfl, rfl⟩ (fun B1 w2 ge5 hB4 K3 => ?_)
  have gb_B1 : w.heap.size ≤ B1 := ge5
  have sz6 := K3.size
  refine RL.opd (v := .slice none 0 0) 4 rfl rfl rfl (X_assign rfl) ?_
  refine RL.nil ?_
  refine RW.seq ?_
  refine RW.region ?_
  refine RL.opd (v := .slice none 0 0) 5 rfl rfl rfl (X_assign rfl) ?_
  refine RL.nil ?_
  refine RW.seq ?_
  refine RW.seq ?_
  refine RW.region ?_
  refine RL.opd (v := .pointer (some ⟨B1, 0, none⟩)) 8 rfl rfl rfl (X_fieldAddr Try.underlying25 rfl Try.inf22 rfl rfl) ?_
  refine RL.opd (v := .slice A l.length cap) 9 rfl rfl rfl (X_load Try.underlying22 rfl rfl (hB4.cell _)) ?_
  refine RL.opd (v := .int .i64 (l.length : Nat)) 10 rfl rfl rfl (X_len Try.underlying22 rfl) ?_
  refine RL.opd (v := .int .i64 0) 11 rfl rfl rfl (X_move rfl) ?_
  refine RL.nil ?_
  refine RW.block ?_
  refine RW.loop (fun gk φ wr => (φ 1 = .int .i64 tick ∧ φ 9 = .slice A l.length cap ∧ φ 10 = .int .i64 (l.length : Nat)) ∧ ∃ (v : Value) (k : Nat), φ 5 = v ∧ φ 11 = .int .i64 (k : Nat) ∧ k ≤ l.length ∧ gk + k = l.length ∧ wr.ownsRow 0 3 1 v (sel (doneB tick) (l.take k)).length (ints (sel (doneB tick) (l.take k))) ∧ Keeps none_ w wr ∧ (∀ g, v.ownBlock = some g → w.heap.size ≤ g)) l.length ?_ ?_
  · exact ⟨⟨rfl, rfl, rfl⟩, _, 0, rfl, rfl, Nat.zero_le _, rfl, World.ownsRow_nil _ _ _ _, K3, (fun g h => by cases h)⟩
  · rintro gk1 φ wr1 ⟨⟨h_1, h_9, h_10⟩, v, k, h_5, h_11, hk, hgk, hown, hK, hge⟩
    obtain ⟨φ0, rfl⟩ : ∃ φ0, φ = upd (upd (upd (upd (upd φ0 1 (.int .i64 tick)) 9 (.slice A l.length cap)) 10 (.int .i64 (l.length : Nat))) 5 (v)) 11 (.int .i64 (k : Nat)) := ⟨φ, by rw [upd_of h_1, upd_of h_9, upd_of h_10, upd_of h_5, upd_of h_11]⟩
    clear h_1 h_9 h_10 h_5 h_11
    have hsz := hK.size
    refine RW.seq ?_
    refine RW.region ?_
    refine RL.opd (v := .bool (decide (((k : Nat) : Int) < (l.length : Nat)))) 12 rfl rfl rfl (X_lss rfl rfl) ?_
    refine RL.nil ?_
    refine RW.seq ?_
    refine RW.cond rfl (fun hlt => ?_) (fun hlt => ?_)
    · -- slot 12: True
      refine RW.skip ?_
      refine RW.seq ?_
      refine RW.block ?_
      refine RW.seq ?_
      have hlt := of_decide_eq_true hlt
      have hlt : k < l.length := by omega
      obtain ⟨b, o, rfl, hc⟩ := hT.elem 6 (fun _ => rfl) hlt
      have hck := hc k hlt
      clear hc
      refine RW.region ?_
      refine RL.opd (v := .pointer (some ⟨b, o + (k) * 7, none⟩)) 13 rfl rfl rfl (X_indexAddr Try.underlying22 Try.inf29 rfl rfl (by omega)) ?_
      refine RL.opd 14 rfl rfl rfl (X_loadAgg (l[k].enc) Try.underlying29 rfl Try.inf29 rfl (fun j u hu => (hK.cell (hck j u hu) (fun h => h)))) ?_
      refine RL.alloc rfl rfl Try.inf29 ⟨rfl, rfl⟩ (fun B7 w8 ge11 hB10 K9 => ?_)
      have gb_B7 : w.heap.size ≤ B7 := Nat.le_trans hK.size ge11
      have ne_v_B7 : ∀ g, Value.ownBlock (v) = some g → g ≠ B7 := fun g hg => by have := owns_lt hown g hg; omega
      have sz12 := K9.size
      replace hown := K9.owns hown (fun _ _ h => h)
      have KK13 := hK.trans K9
      refine RL.storeAt rfl rfl rfl Try.inf29 rfl rfl rfl rfl hB10 (Nat.le_of_ble_eq_true rfl) (fun w14 hB16 K15 => ?_)
      try (rw [splice_all rfl] at hB16)
      replace hown := K15.owns hown (fun g hg h => ne_v_B7 g hg h)
      have KK17 := KK13.trans_new K15 (fun i hi h => absurd h (by omega))
      refine RL.nil ?_
      refine RW.seq ?_
      refine RW.region ?_
      refine RL.opd (v := .pointer (some ⟨B7, 6, none⟩)) 15 rfl rfl rfl (X_fieldAddr Try.underlying29 rfl Try.inf3 rfl rfl) ?_
      refine RL.opd 16 rfl rfl rfl (X_load Try.underlying3 rfl rfl (hB16.cell _)) ?_
      refine RL.opd 17 rfl rfl rfl (X_geq rfl rfl) ?_
      refine RL.opd 18 rfl rfl rfl (X_move rfl) ?_
      refine RL.gopd (v := .pointer (some ⟨B7, 6, none⟩)) 19 rfl rfl rfl rfl (fun hg => (X_fieldAddr Try.underlying29 rfl Try.inf3 rfl rfl)) rfl rfl ?_
      refine RL.gopd 20 rfl rfl rfl rfl (fun hg => (X_load Try.underlying3 rfl (gb_on hg) (hB16.cell _))) rfl rfl ?_
      refine RL.gopd (v := .int .i64 tick) 21 rfl rfl rfl rfl (fun hg => (X_move rfl)) rfl rfl ?_
      refine RL.gopd 22 rfl rfl rfl rfl (fun hg => (X_leq (gb_on hg) (gb_on hg))) rfl rfl ?_
      refine RL.opd 23 rfl rfl rfl (X_pickB rfl (fun h => gbT h) (fun _ => rfl)) ?_
      refine RL.nil ?_
      refine RW.cond rfl (fun hc => ?_) (fun hc => ?_)
      · -- slot 23: True
        refine RW.region ?_
        refine RL.opd (v := v) 24 rfl rfl rfl (X_move rfl) ?_
        refine RL.opd (v := .pointer (some ⟨B7, 0, none⟩)) 25 rfl rfl rfl (X_fieldAddr Try.underlying29 rfl Try.inf3 rfl rfl) ?_
        refine RL.opd 26 rfl rfl rfl (X_load Try.underlying3 rfl rfl (hB16.cell _)) ?_
        refine RL.lit1 rfl rfl ⟨rfl, rfl⟩ Try.underlying27 Try.inf3 rfl (by decide) rfl rfl (fun B18 w19 ge22 hB21 K20 => ?_)
        have gb_B18 : w.heap.size ≤ B18 := Nat.le_trans KK17.size ge22
        have ne23 : B7 ≠ B18 := by have := hB16.lt; omega
        have ne_v_B18 : ∀ g, Value.ownBlock (v) = some g → g ≠ B18 := fun g hg => by have := owns_lt hown g hg; omega
        have sz24 := K20.size
        replace hB16 := K20.at_ hB16 (fun h => h)
        replace hown := K20.owns hown (fun _ _ h => h)
        have KK25 := KK17.trans K20
        refine RL.append rfl rfl ⟨rfl, rfl⟩ Try.underlying27 Try.inf3 rfl rfl hown rfl rfl hB21.news rfl (by have := sel_len (doneB tick) l k; omega) (by have := sel_len (doneB tick) l k; omega) (fun v26 w27 ho29 K28 hl30 => ?_)
        have sz31 := K28.size
        have ne_v_B7_ : ∀ g, Value.ownBlock (v26) = some g → g ≠ B7 := by
          intro g hg
          rcases hl30 with e | e
          · exact ne_v_B7 g (e ▸ hg)
          · rw [e] at hg; cases hg; have := hB16.lt; omega
        replace hB16 := K28.at_ hB16 (fun h => ne_v_B7 B7 h rfl)
        replace ne_v_B7 := ne_v_B7_
        have ne_v_B18_ : ∀ g, Value.ownBlock (v26) = some g → g ≠ B18 := by
          intro g hg
          rcases hl30 with e | e
          · exact ne_v_B18 g (e ▸ hg)
          · rw [e] at hg; cases hg; have := hB21.lt; omega
        replace hB21 := K28.at_ hB21 (fun h => ne_v_B18 B18 h rfl)
        replace ne_v_B18 := ne_v_B18_
        have hge32 : ∀ g, Value.ownBlock (v26) = some g → w.heap.size ≤ g := by
          intro g hg
          rcases hl30 with e | e
          · exact hge g (e ▸ hg)
          · rw [e] at hg; cases hg; exact KK25.size
        have KK33 := KK25.trans_new K28 (fun i hi h => by have := hge i h; omega)
        refine RL.opd (v := v26) 5 rfl rfl rfl (X_assign rfl) ?_
        refine RL.nil ?_
        refine RW.region ?_
        refine RL.opd (v := .int .i64 (((k : Nat) : Int) + 1)) 29 rfl rfl rfl (X_add rfl rfl (by omega) rfl) ?_
        refine RL.opd (v := .int .i64 (((k : Nat) : Int) + 1)) 11 rfl rfl rfl (X_move rfl) ?_
        refine RL.nil ?_
        refine ⟨gk1 - 1, by omega, ⟨rfl, rfl, rfl⟩, ?_⟩
        have hsn := sel_snoc (doneB tick) l k hlt
        have hb : (doneB tick) l[k] = true := hc
        rw [hb, cond_true] at hsn
        refine ⟨v26, k + 1, rfl, rfl, by omega, by omega, ?_, KK33, hge32⟩
        rw [hsn, List.length_append, ints_append]; exact ho29
      · -- slot 23: False
        refine RW.skip ?_
        refine RW.region ?_
        refine RL.opd (v := .int .i64 (((k : Nat) : Int) + 1)) 29 rfl rfl rfl (X_add rfl rfl (by omega) rfl) ?_
        refine RL.opd (v := .int .i64 (((k : Nat) : Int) + 1)) 11 rfl rfl rfl (X_move rfl) ?_
        refine RL.nil ?_
        refine ⟨gk1 - 1, by omega, ⟨rfl, rfl, rfl⟩, ?_⟩
        have hsn := sel_snoc (doneB tick) l k hlt
        have hb : (doneB tick) l[k] = false := hc
        rw [hb, cond_false, List.append_nil] at hsn
        refine ⟨v, k + 1, rfl, rfl, by omega, by omega, ?_, KK17, hge⟩
        rw [hsn]; exact hown
    · -- slot 12: False
      refine RW.exit ?_
      refine RW.seq ?_
      refine RW.region ?_
      refine RL.opd (v := v) 30 rfl rfl rfl (X_move rfl) ?_
      refine RL.opd (v := v) 4 rfl rfl rfl (X_assign rfl) ?_
      refine RL.nil ?_
      refine RW.ret ?_
      refine ret1 (.inl rfl) rfl ?_
      obtain rfl : k = l.length := by have := of_decide_eq_false hlt; omega
      rw [List.take_length] at hown
      exact ⟨v, rfl, hown, hK, hge⟩

end Go.Proofs
