/- The law, walked. -/
import Derived.Test.YtjahbhpcaenllaaHwRiders10
import Derived.Test.YtjahbhpcaenllaaHwRiders
import Derived.Test.YtjahbhpcaenllaaHwFew
import Derived.Test.YtjahbhpcaenllaaHwLegs
import Derived.Test.YtjahbhpcaenllaaHwRefAt
import Derived.Test.YtjahbhpcaenllaaHwAlive
namespace Hw.Sym
end Hw.Sym
namespace Go.Proofs
open Go.RowKit Go.Hw Hw.Sym
theorem equal_same (v1 v2 : Value) (xs : List Int) (w : World) (hn : xs.length ≤ 1000000) (h1 : w.ownsRow 0 3 1 v1 xs.length (ints xs)) (h2 : w.ownsRow 0 3 1 v2 xs.length (ints xs)) :
    Calls Try.prog 9 #[v1, v2] w fun e w' => e = .returned (.bool true) ∧ Keeps none_ w w' := by
  obtain ⟨A, c, rfl, _, hA, _⟩ := owns_slice h1
  obtain ⟨B, d, rfl, _, hB, _⟩ := owns_slice h2
  refine (equal_any A B c d xs xs w hn hA hB).mono fun e w' h => ?_
  obtain ⟨b, rfl, h3, h4⟩ := h
  rw [h3.2 rfl]; exact ⟨rfl, h4⟩

set_option maxRecDepth 10000 in
theorem law_any (A A2 : Option Addr) (cap c2 : Nat) (used : Int) (l : List Trip) (ls : List (List Leg)) (hs : List Value) (w : World) (car tick : Int) (hT : Row w A (l.flatMap Trip.enc)) (hls : LegsAt w A2 ls hs)
    (hn : l.length ≤ 9223372036854775807) (hn2 : ls.length ≤ 9223372036854775807) :
    Calls Try.prog 3 #[.agg #[.slice A l.length cap, .slice A2 ls.length c2, .int .i64 used], .int .i64 car, .int .i64 tick] w fun e w' => e = .returned (.bool true) ∧ Keeps none_ w w' := by
  refine calls_of_RW Try.func3 rfl (Nat.le_of_ble_eq_true rfl) ?_
  refine RW.seq ?_
  refine RW.region ?_
  refine RL.box (v := .agg #[.slice A l.length cap, .slice A2 ls.length c2, .int .i64 used]) rfl rfl rfl ⟨rfl, rfl⟩ (fun B1 w2 ge5 hB4 K3 => ?_)
  have gb_B1 : w.heap.size ≤ B1 := ge5
  have sz6 := K3.size
  refine RL.opd (v := .bool false) 6 rfl rfl rfl (X_assign rfl) ?_
  refine RL.nil ?_
  refine RW.seq ?_
  refine RW.seq ?_
  refine RW.region ?_
  refine RL.opd (v := .agg #[.slice A l.length cap, .slice A2 ls.length c2, .int .i64 used]) 15 rfl rfl rfl (X_loadAgg [.slice A l.length cap, .slice A2 ls.length c2, .int .i64 used] Try.underlying25 rfl Try.inf25 rfl (At.cells0 hB4)) ?_
  refine RL.call rfl (X_callF Try.en7 rfl) ⟨rfl, rfl⟩ (few_any A A2 cap c2 used l ls hs w2 (hT.keep K3 (apart_none _)) (hls.keep K3) hn hn2) ?_
  rintro e8 w7 ⟨bb, rfl, hfew, hK1⟩
  refine ⟨_, rfl, ?_⟩
  have sz9 := hK1.size
  replace hB4 := hK1.at_ hB4 (fun h => h)
  have KK10 := K3.trans hK1
  refine RL.opd (v := .bool (!bb)) 17 rfl rfl rfl (X_not rfl) ?_
  refine RL.opd (v := .bool (!bb)) 18 rfl rfl rfl (X_move rfl) ?_
  refine RL.gopd (v := .int .i64 tick) 19 rfl rfl rfl rfl (fun hg => (X_move rfl)) rfl rfl ?_
  refine RL.gopd (v := .bool (decide ((tick : Int) < (-1073741824)))) 20 rfl rfl rfl rfl (fun hg => (X_lss (gb_on hg) rfl)) rfl rfl ?_
  refine RL.opd (v := .bool (bif (!bb) then true else (decide ((tick : Int) < (-1073741824))))) 21 rfl rfl rfl (X_pickB rfl (fun _ => rfl) (fun h => gbF h)) ?_
  refine RL.opd (v := .bool (bif (!bb) then true else (decide ((tick : Int) < (-1073741824))))) 22 rfl rfl rfl (X_move rfl) ?_
  refine RL.gopd (v := .int .i64 tick) 23 rfl rfl rfl rfl (fun hg => (X_move rfl)) rfl rfl ?_
  refine RL.gopd (v := .bool (decide ((1073741824 : Int) < tick))) 24 rfl rfl rfl rfl (fun hg => (X_gtr (gb_on hg) rfl)) rfl rfl ?_
  refine RL.opd (v := .bool (bif (bif (!bb) then true else (decide ((tick : Int) < (-1073741824)))) then true else (decide ((1073741824 : Int) < tick)))) 25 rfl rfl rfl (X_pickB rfl (fun _ => rfl) (fun h => gbF h)) ?_
  refine RL.nil ?_
  refine RW.cond rfl (fun hc25 => ?_) (fun hc25 => ?_)
  · -- slot 25: True
    refine RW.seq ?_
    refine RW.region ?_
    refine RL.opd (v := .bool true) 6 rfl rfl rfl (X_assign rfl) ?_
    refine RL.nil ?_
    refine RW.ret ?_
    exact ret1 (.inl rfl) rfl ⟨rfl, KK10⟩
  · -- slot 25: False
    refine RW.skip ?_
    refine RW.seq ?_
    have hc25 := or_f hc25
    obtain ⟨hc25, hthi⟩ := hc25
    obtain ⟨hc25, htlo⟩ := or_f hc25
    have hbb : bb = true := by simpa using hc25
    have hfw := hfew hbb
    have htlo := of_decide_eq_false htlo
    have hthi := of_decide_eq_false hthi
    have hl60 := hfw.len
    have hl16 := hfw.len2
    have hid : ∀ i (h : i < l.length), l[i].id = i := fun i h => (hfw.trip i h).id
    have hbr : ∀ i (h : i < l.length), -1073741824 ≤ l[i].board ∧ l[i].board ≤ 1073741824 := fun i h => ⟨(hfw.trip i h).lo.2.1, (hfw.trip i h).hi.2.1⟩
    refine RW.region ?_
    refine RL.opd (v := .slice none 0 0) 7 rfl rfl rfl (X_assign rfl) ?_
    refine RL.opd (v := .slice none 0 0) 8 rfl rfl rfl (X_assign rfl) ?_
    refine RL.opd (v := .slice none 0 0) 9 rfl rfl rfl (X_assign rfl) ?_
    refine RL.nil ?_
    refine RW.seq ?_
    refine RW.seq ?_
    refine RW.region ?_
    refine RL.opd (v := .int .i64 0) 10 rfl rfl rfl (X_assign rfl) ?_
    refine RL.nil ?_
    refine RW.block ?_
    refine RW.loop (fun gk φ wr => (φ 1 = .int .i64 car ∧ φ 2 = .int .i64 tick ∧ φ 3 = .pointer (some ⟨B1, 0, none⟩) ∧ φ 9 = .slice none 0 0) ∧ ∃ (wt dn : Value) (k : Nat), φ 7 = wt ∧ φ 8 = dn ∧ φ 10 = .int .i64 (k : Nat) ∧ k ≤ l.length ∧ gk + k = l.length ∧ wr.ownsRow 0 3 1 wt (sel (waitB tick) (l.take k)).length (ints (sel (waitB tick) (l.take k))) ∧ wr.ownsRow 0 3 1 dn (sel (doneB tick) (l.take k)).length (ints (sel (doneB tick) (l.take k))) ∧ (∀ g, Value.ownBlock wt = some g → Value.ownBlock dn = some g → False) ∧ At wr B1 (.cells #[.slice A l.length cap, .slice A2 ls.length c2, .int .i64 used] 25) ∧ Keeps none_ w wr ∧ (∀ g, Value.ownBlock wt = some g → w.heap.size ≤ g) ∧ (∀ g, Value.ownBlock dn = some g → w.heap.size ≤ g) ∧ (∀ g, Value.ownBlock wt = some g → g ≠ B1) ∧ (∀ g, Value.ownBlock dn = some g → g ≠ B1)) l.length ?_ ?_
    · exact ⟨⟨rfl, rfl, rfl, rfl⟩, _, _, 0, rfl, rfl, rfl, Nat.zero_le _, rfl, World.ownsRow_nil _ _ _ _, World.ownsRow_nil _ _ _ _, (fun g h => by cases h), hB4, KK10, (fun g h => by cases h), (fun g h => by cases h), (fun g h => by cases h), (fun g h => by cases h)⟩
    · rintro gk1 φ wr1 ⟨⟨h_1, h_2, h_3, h_9⟩, wt, dn, k, h_7, h_8, h_10, hk, hgk, hwt, hdn, hdis, hat, hK, hgw, hgd, ne_wt_B1, ne_dn_B1⟩
      obtain ⟨φ0, rfl⟩ : ∃ φ0, φ = upd (upd (upd (upd (upd (upd (upd φ0 1 (.int .i64 car)) 2 (.int .i64 tick)) 3 (.pointer (some ⟨B1, 0, none⟩))) 9 (.slice none 0 0)) 7 (wt)) 8 (dn)) 10 (.int .i64 (k : Nat)) := ⟨φ, by rw [upd_of h_1, upd_of h_2, upd_of h_3, upd_of h_9, upd_of h_7, upd_of h_8, upd_of h_10]⟩
      clear h_1 h_2 h_3 h_9 h_7 h_8 h_10
      have hsz := hK.size
      refine RW.seq ?_
      refine RW.seq ?_
      refine RW.region ?_
      refine RL.opd (v := .int .i64 (k : Nat)) 26 rfl rfl rfl (X_move rfl) ?_
      refine RL.opd (v := .pointer (some ⟨B1, 0, none⟩)) 27 rfl rfl rfl (X_fieldAddr Try.underlying25 rfl Try.inf22 rfl rfl) ?_
      refine RL.opd (v := .slice A l.length cap) 28 rfl rfl rfl (X_load Try.underlying22 rfl rfl (hat.cell _)) ?_
      refine RL.opd (v := .int .i64 (l.length : Nat)) 29 rfl rfl rfl (X_len Try.underlying22 rfl) ?_
      refine RL.opd (v := .bool (decide (((k : Nat) : Int) < (l.length : Nat)))) 30 rfl rfl rfl (X_lss rfl rfl) ?_
      refine RL.nil ?_
      refine RW.cond rfl (fun hlt => ?_) (fun hlt => ?_)
      · -- slot 30: True
        refine RW.skip ?_
        refine RW.seq ?_
        refine RW.block ?_
        refine RW.seq ?_
        have hlt := of_decide_eq_true hlt
        have hlt : k < l.length := by omega
        obtain ⟨b, o, rfl, hc0⟩ := hT.elem 6 (fun _ => rfl) hlt
        have hck := hc0 k hlt
        have hw1 := sel_snoc (waitB tick) l k hlt
        have hd1 := sel_snoc (doneB tick) l k hlt
        have hwl := sel_len (waitB tick) l k
        have hdl := sel_len (doneB tick) l k
        refine RW.region ?_
        refine RL.opd (v := .pointer (some ⟨B1, 0, none⟩)) 33 rfl rfl rfl (X_fieldAddr Try.underlying25 rfl Try.inf22 rfl rfl) ?_
        refine RL.opd (v := .slice (some ⟨b, o, none⟩) l.length cap) 34 rfl rfl rfl (X_load Try.underlying22 rfl rfl (hat.cell _)) ?_
        refine RL.opd (v := .int .i64 (k : Nat)) 35 rfl rfl rfl (X_move rfl) ?_
        refine RL.opd (v := .pointer (some ⟨b, o + (k) * 7, none⟩)) 36 rfl rfl rfl (X_indexAddr Try.underlying22 Try.inf29 rfl rfl (by omega)) ?_
        refine RL.opd (v := .agg #[.int .i64 l[k].id, .int .i64 l[k].arrive, .int .i64 l[k].frm, .int .i64 l[k].to, .int .i64 l[k].car, .int .i64 l[k].board, .int .i64 l[k].alight]) 37 rfl rfl rfl (X_loadAgg (l[k].enc) Try.underlying29 rfl Try.inf29 rfl (fun j u hu => (hK.cell (hck j u hu) (fun h => h)))) ?_
        refine RL.alloc rfl rfl Try.inf29 ⟨rfl, rfl⟩ (fun B11 w12 ge15 hB14 K13 => ?_)
        have gb_B11 : w.heap.size ≤ B11 := Nat.le_trans hK.size ge15
        have ne16 : B1 ≠ B11 := by have := hat.lt; omega
        have ne_wt_B11 : ∀ g, Value.ownBlock (wt) = some g → g ≠ B11 := fun g hg => by have := owns_lt hwt g hg; omega
        have ne_dn_B11 : ∀ g, Value.ownBlock (dn) = some g → g ≠ B11 := fun g hg => by have := owns_lt hdn g hg; omega
        have sz17 := K13.size
        replace hat := K13.at_ hat (fun h => h)
        replace hwt := K13.owns hwt (fun _ _ h => h)
        replace hdn := K13.owns hdn (fun _ _ h => h)
        have KK18 := hK.trans K13
        refine RL.storeAt (v := .agg #[.int .i64 l[k].id, .int .i64 l[k].arrive, .int .i64 l[k].frm, .int .i64 l[k].to, .int .i64 l[k].car, .int .i64 l[k].board, .int .i64 l[k].alight]) rfl rfl rfl Try.inf29 rfl rfl rfl rfl hB14 (Nat.le_of_ble_eq_true rfl) (fun w19 hB21 K20 => ?_)
        try (rw [splice_all rfl] at hB21)
        replace hat := K20.at_ hat (by intro h; exact absurd h (by omega))
        replace hwt := K20.owns hwt (fun g hg h => ne_wt_B11 g hg h)
        replace hdn := K20.owns hdn (fun g hg h => ne_dn_B11 g hg h)
        have KK22 := KK18.trans_new K20 (fun i hi h => absurd h (by omega))
        refine RL.nil ?_
        refine RW.seq ?_
        refine RW.seq ?_
        refine RW.region ?_
        refine RL.opd (v := .pointer (some ⟨B11, 1, none⟩)) 38 rfl rfl rfl (X_fieldAddr Try.underlying29 rfl Try.inf3 rfl rfl) ?_
        refine RL.opd (v := .int .i64 l[k].arrive) 39 rfl rfl rfl (X_load Try.underlying3 rfl rfl (hB21.cell _)) ?_
        refine RL.opd (v := .int .i64 tick) 40 rfl rfl rfl (X_move rfl) ?_
        refine RL.opd (v := .bool (decide ((l[k].arrive : Int) ≤ tick))) 41 rfl rfl rfl (X_leq rfl rfl) ?_
        refine RL.opd (v := .bool (decide ((l[k].arrive : Int) ≤ tick))) 42 rfl rfl rfl (X_move rfl) ?_
        refine RL.gopd (v := .pointer (some ⟨B11, 5, none⟩)) 43 rfl rfl rfl rfl (fun hg => (X_fieldAddr Try.underlying29 rfl Try.inf3 rfl rfl)) rfl rfl ?_
        refine RL.gopd (v := .int .i64 l[k].board) 44 rfl rfl rfl rfl (fun hg => (X_load Try.underlying3 rfl (gb_on hg) (hB21.cell _))) rfl rfl ?_
        refine RL.gopd (v := .bool (decide ((l[k].board : Int) < 0))) 45 rfl rfl rfl rfl (fun hg => (X_lss (gb_on hg) rfl)) rfl rfl ?_
        refine RL.gopd (v := .bool (decide ((l[k].board : Int) < 0))) 46 rfl rfl rfl rfl (fun hg => (X_move (gb_on hg))) rfl rfl ?_
        refine RL.gop2d (v := .pointer (some ⟨B11, 5, none⟩)) 47 rfl rfl rfl rfl (fun hg => (X_fieldAddr Try.underlying29 rfl Try.inf3 rfl rfl)) rfl rfl ?_
        refine RL.gop2d (v := .int .i64 l[k].board) 48 rfl rfl rfl rfl (fun hg => (X_load Try.underlying3 rfl (gb_on hg) (hB21.cell _))) rfl rfl ?_
        refine RL.gop2d (v := .int .i64 tick) 49 rfl rfl rfl rfl (fun hg => (X_move rfl)) rfl rfl ?_
        refine RL.gop2d (v := .bool (decide ((tick : Int) < l[k].board))) 50 rfl rfl rfl rfl (fun hg => (X_gtr (gb_on hg) (gb_on hg))) rfl rfl ?_
        refine RL.gopd (v := .bool (bif (decide ((l[k].board : Int) < 0)) then true else (decide ((tick : Int) < l[k].board)))) 51 rfl rfl rfl rfl (fun hg => (X_pickB (gb_on hg) (fun _ => rfl) (fun h => gb2F hg h))) rfl rfl ?_
        refine RL.opd (v := .bool (bif (decide ((l[k].arrive : Int) ≤ tick)) then (bif (decide ((l[k].board : Int) < 0)) then true else (decide ((tick : Int) < l[k].board))) else false)) 52 rfl rfl rfl (X_pickB rfl (fun h => gbT h) (fun _ => rfl)) ?_
        refine RL.nil ?_
        refine RW.cond rfl (fun hcw => ?_) (fun hcw => ?_)
        · -- slot 52: True
          refine RW.region ?_
          refine RL.opd (v := wt) 53 rfl rfl rfl (X_move rfl) ?_
          refine RL.opd (v := .int .i64 (k : Nat)) 54 rfl rfl rfl (X_move rfl) ?_
          refine RL.lit1 (v := .int .i64 (k : Nat)) rfl rfl ⟨rfl, rfl⟩ Try.underlying27 Try.inf3 rfl (by decide) rfl rfl (fun B23 w24 ge27 hB26 K25 => ?_)
          have gb_B23 : w.heap.size ≤ B23 := Nat.le_trans KK22.size ge27
          have ne28 : B1 ≠ B23 := by have := hat.lt; omega
          have ne29 : B11 ≠ B23 := by have := hB21.lt; omega
          have ne_wt_B23 : ∀ g, Value.ownBlock (wt) = some g → g ≠ B23 := fun g hg => by have := owns_lt hwt g hg; omega
          have ne_dn_B23 : ∀ g, Value.ownBlock (dn) = some g → g ≠ B23 := fun g hg => by have := owns_lt hdn g hg; omega
          have sz30 := K25.size
          replace hat := K25.at_ hat (fun h => h)
          replace hB21 := K25.at_ hB21 (fun h => h)
          replace hwt := K25.owns hwt (fun _ _ h => h)
          replace hdn := K25.owns hdn (fun _ _ h => h)
          have KK31 := KK22.trans K25
          refine RL.append rfl rfl ⟨rfl, rfl⟩ Try.underlying27 Try.inf3 rfl rfl hwt rfl rfl hB26.news rfl (by omega) (by omega) (fun v32 w33 ho35 K34 hl36 => ?_)
          have sz37 := K34.size
          have ne_wt_B1_ : ∀ g, Value.ownBlock (v32) = some g → g ≠ B1 := by
            intro g hg
            rcases hl36 with e | e
            · exact ne_wt_B1 g (e ▸ hg)
            · rw [e] at hg; cases hg; have := hat.lt; omega
          replace hat := K34.at_ hat (fun h => ne_wt_B1 B1 h rfl)
          replace ne_wt_B1 := ne_wt_B1_
          have ne_wt_B11_ : ∀ g, Value.ownBlock (v32) = some g → g ≠ B11 := by
            intro g hg
            rcases hl36 with e | e
            · exact ne_wt_B11 g (e ▸ hg)
            · rw [e] at hg; cases hg; have := hB21.lt; omega
          replace hB21 := K34.at_ hB21 (fun h => ne_wt_B11 B11 h rfl)
          replace ne_wt_B11 := ne_wt_B11_
          have ne_wt_B23_ : ∀ g, Value.ownBlock (v32) = some g → g ≠ B23 := by
            intro g hg
            rcases hl36 with e | e
            · exact ne_wt_B23 g (e ▸ hg)
            · rw [e] at hg; cases hg; have := hB26.lt; omega
          replace hB26 := K34.at_ hB26 (fun h => ne_wt_B23 B23 h rfl)
          replace ne_wt_B23 := ne_wt_B23_
          have hdis38 : ∀ g, Value.ownBlock (v32) = some g → Value.ownBlock (dn) = some g → False := by
            intro g h1 h2
            rcases hl36 with e | e
            · exact hdis g (e ▸ h1) h2
            · rw [e] at h1; cases h1; have := owns_lt hdn _ h2; omega
          replace hdn := K34.owns hdn (fun g hg h => hdis g h hg)
          have hge39 : ∀ g, Value.ownBlock (v32) = some g → w.heap.size ≤ g := by
            intro g hg
            rcases hl36 with e | e
            · exact hgw g (e ▸ hg)
            · rw [e] at hg; cases hg; exact KK31.size
          have KK40 := KK31.trans_new K34 (fun i hi h => by have := hgw i h; omega)
          refine RL.opd (v := v32) 7 rfl rfl rfl (X_assign rfl) ?_
          refine RL.nil ?_
          refine RW.seq ?_
          refine RW.region ?_
          refine RL.opd (v := .pointer (some ⟨B11, 6, none⟩)) 57 rfl rfl rfl (X_fieldAddr Try.underlying29 rfl Try.inf3 rfl rfl) ?_
          refine RL.opd (v := .int .i64 l[k].alight) 58 rfl rfl rfl (X_load Try.underlying3 rfl rfl (hB21.cell _)) ?_
          refine RL.opd (v := .bool (decide ((0 : Int) ≤ l[k].alight))) 59 rfl rfl rfl (X_geq rfl rfl) ?_
          refine RL.opd (v := .bool (decide ((0 : Int) ≤ l[k].alight))) 60 rfl rfl rfl (X_move rfl) ?_
          refine RL.gopd (v := .pointer (some ⟨B11, 6, none⟩)) 61 rfl rfl rfl rfl (fun hg => (X_fieldAddr Try.underlying29 rfl Try.inf3 rfl rfl)) rfl rfl ?_
          refine RL.gopd (v := .int .i64 l[k].alight) 62 rfl rfl rfl rfl (fun hg => (X_load Try.underlying3 rfl (gb_on hg) (hB21.cell _))) rfl rfl ?_
          refine RL.gopd (v := .int .i64 tick) 63 rfl rfl rfl rfl (fun hg => (X_move rfl)) rfl rfl ?_
          refine RL.gopd (v := .bool (decide ((l[k].alight : Int) ≤ tick))) 64 rfl rfl rfl rfl (fun hg => (X_leq (gb_on hg) (gb_on hg))) rfl rfl ?_
          refine RL.opd (v := .bool (bif (decide ((0 : Int) ≤ l[k].alight)) then (decide ((l[k].alight : Int) ≤ tick)) else false)) 65 rfl rfl rfl (X_pickB rfl (fun h => gbT h) (fun _ => rfl)) ?_
          refine RL.nil ?_
          refine RW.cond rfl (fun hcd => ?_) (fun hcd => ?_)
          · -- slot 65: True
            refine RW.region ?_
            refine RL.opd (v := dn) 66 rfl rfl rfl (X_move rfl) ?_
            refine RL.opd (v := .int .i64 (k : Nat)) 67 rfl rfl rfl (X_move rfl) ?_
            refine RL.lit1 (v := .int .i64 (k : Nat)) rfl rfl ⟨rfl, rfl⟩ Try.underlying27 Try.inf3 rfl (by decide) rfl rfl (fun B41 w42 ge45 hB44 K43 => ?_)
            have gb_B41 : w.heap.size ≤ B41 := Nat.le_trans KK40.size ge45
            have ne46 : B1 ≠ B41 := by have := hat.lt; omega
            have ne47 : B11 ≠ B41 := by have := hB21.lt; omega
            have ne48 : B23 ≠ B41 := by have := hB26.lt; omega
            have ne_wt_B41 : ∀ g, Value.ownBlock (v32) = some g → g ≠ B41 := fun g hg => by have := owns_lt ho35 g hg; omega
            have ne_dn_B41 : ∀ g, Value.ownBlock (dn) = some g → g ≠ B41 := fun g hg => by have := owns_lt hdn g hg; omega
            have sz49 := K43.size
            replace hat := K43.at_ hat (fun h => h)
            replace hB21 := K43.at_ hB21 (fun h => h)
            replace hB26 := K43.at_ hB26 (fun h => h)
            replace ho35 := K43.owns ho35 (fun _ _ h => h)
            replace hdn := K43.owns hdn (fun _ _ h => h)
            have KK50 := KK40.trans K43
            refine RL.append rfl rfl ⟨rfl, rfl⟩ Try.underlying27 Try.inf3 rfl rfl hdn rfl rfl hB44.news rfl (by omega) (by omega) (fun v51 w52 ho54 K53 hl55 => ?_)
            have sz56 := K53.size
            have ne_dn_B1_ : ∀ g, Value.ownBlock (v51) = some g → g ≠ B1 := by
              intro g hg
              rcases hl55 with e | e
              · exact ne_dn_B1 g (e ▸ hg)
              · rw [e] at hg; cases hg; have := hat.lt; omega
            replace hat := K53.at_ hat (fun h => ne_dn_B1 B1 h rfl)
            replace ne_dn_B1 := ne_dn_B1_
            have ne_dn_B11_ : ∀ g, Value.ownBlock (v51) = some g → g ≠ B11 := by
              intro g hg
              rcases hl55 with e | e
              · exact ne_dn_B11 g (e ▸ hg)
              · rw [e] at hg; cases hg; have := hB21.lt; omega
            replace hB21 := K53.at_ hB21 (fun h => ne_dn_B11 B11 h rfl)
            replace ne_dn_B11 := ne_dn_B11_
            have ne_dn_B23_ : ∀ g, Value.ownBlock (v51) = some g → g ≠ B23 := by
              intro g hg
              rcases hl55 with e | e
              · exact ne_dn_B23 g (e ▸ hg)
              · rw [e] at hg; cases hg; have := hB26.lt; omega
            replace hB26 := K53.at_ hB26 (fun h => ne_dn_B23 B23 h rfl)
            replace ne_dn_B23 := ne_dn_B23_
            have ne_dn_B41_ : ∀ g, Value.ownBlock (v51) = some g → g ≠ B41 := by
              intro g hg
              rcases hl55 with e | e
              · exact ne_dn_B41 g (e ▸ hg)
              · rw [e] at hg; cases hg; have := hB44.lt; omega
            replace hB44 := K53.at_ hB44 (fun h => ne_dn_B41 B41 h rfl)
            replace ne_dn_B41 := ne_dn_B41_
            have hdis57 : ∀ g, Value.ownBlock (v32) = some g → Value.ownBlock (v51) = some g → False := by
              intro g h2 h1
              rcases hl55 with e | e
              · exact hdis38 g h2 (e ▸ h1)
              · rw [e] at h1; cases h1; have := owns_lt ho35 _ h2; omega
            replace ho35 := K53.owns ho35 (fun g hg h => hdis38 g hg h)
            have hge58 : ∀ g, Value.ownBlock (v51) = some g → w.heap.size ≤ g := by
              intro g hg
              rcases hl55 with e | e
              · exact hgd g (e ▸ hg)
              · rw [e] at hg; cases hg; exact KK50.size
            have KK59 := KK50.trans_new K53 (fun i hi h => by have := hgd i h; omega)
            refine RL.opd (v := v51) 8 rfl rfl rfl (X_assign rfl) ?_
            refine RL.nil ?_
            refine RW.region ?_
            refine RL.opd (v := .int .i64 (k : Nat)) 31 rfl rfl rfl (X_move rfl) ?_
            refine RL.opd (v := .int .i64 (((k : Nat) : Int) + 1)) 32 rfl rfl rfl (X_add rfl rfl (by omega) rfl) ?_
            refine RL.opd (v := .int .i64 (((k : Nat) : Int) + 1)) 10 rfl rfl rfl (X_assign rfl) ?_
            refine RL.nil ?_
            refine ⟨gk1 - 1, by omega, ⟨rfl, rfl, rfl, rfl⟩, ?_⟩
            have hw2 : waitB tick l[k] = true := hcw
            rw [hw2, cond_true, hid k hlt] at hw1
            have hd2 : doneB tick l[k] = true := hcd
            rw [hd2, cond_true, hid k hlt] at hd1
            refine ⟨v32, v51, k + 1, rfl, rfl, rfl, by omega, by omega, ?_, ?_, hdis57, hat, KK59, hge39, hge58, ne_wt_B1, ne_dn_B1⟩
            · rw [hw1, List.length_append, ints_append]; exact ho35
            · rw [hd1, List.length_append, ints_append]; exact ho54
          · -- slot 65: False
            refine RW.skip ?_
            refine RW.region ?_
            refine RL.opd (v := .int .i64 (k : Nat)) 31 rfl rfl rfl (X_move rfl) ?_
            refine RL.opd (v := .int .i64 (((k : Nat) : Int) + 1)) 32 rfl rfl rfl (X_add rfl rfl (by omega) rfl) ?_
            refine RL.opd (v := .int .i64 (((k : Nat) : Int) + 1)) 10 rfl rfl rfl (X_assign rfl) ?_
            refine RL.nil ?_
            refine ⟨gk1 - 1, by omega, ⟨rfl, rfl, rfl, rfl⟩, ?_⟩
            have hw2 : waitB tick l[k] = true := hcw
            rw [hw2, cond_true, hid k hlt] at hw1
            have hd2 : doneB tick l[k] = false := hcd
            rw [hd2, cond_false, List.append_nil] at hd1
            refine ⟨v32, dn, k + 1, rfl, rfl, rfl, by omega, by omega, ?_, ?_, hdis38, hat, KK40, hge39, hgd, ne_wt_B1, ne_dn_B1⟩
            · rw [hw1, List.length_append, ints_append]; exact ho35
            · rw [hd1]; exact hdn
        · -- slot 52: False
          refine RW.skip ?_
          refine RW.seq ?_
          refine RW.region ?_
          refine RL.opd (v := .pointer (some ⟨B11, 6, none⟩)) 57 rfl rfl rfl (X_fieldAddr Try.underlying29 rfl Try.inf3 rfl rfl) ?_
          refine RL.opd (v := .int .i64 l[k].alight) 58 rfl rfl rfl (X_load Try.underlying3 rfl rfl (hB21.cell _)) ?_
          refine RL.opd (v := .bool (decide ((0 : Int) ≤ l[k].alight))) 59 rfl rfl rfl (X_geq rfl rfl) ?_
          refine RL.opd (v := .bool (decide ((0 : Int) ≤ l[k].alight))) 60 rfl rfl rfl (X_move rfl) ?_
          refine RL.gopd (v := .pointer (some ⟨B11, 6, none⟩)) 61 rfl rfl rfl rfl (fun hg => (X_fieldAddr Try.underlying29 rfl Try.inf3 rfl rfl)) rfl rfl ?_
          refine RL.gopd (v := .int .i64 l[k].alight) 62 rfl rfl rfl rfl (fun hg => (X_load Try.underlying3 rfl (gb_on hg) (hB21.cell _))) rfl rfl ?_
          refine RL.gopd (v := .int .i64 tick) 63 rfl rfl rfl rfl (fun hg => (X_move rfl)) rfl rfl ?_
          refine RL.gopd (v := .bool (decide ((l[k].alight : Int) ≤ tick))) 64 rfl rfl rfl rfl (fun hg => (X_leq (gb_on hg) (gb_on hg))) rfl rfl ?_
          refine RL.opd (v := .bool (bif (decide ((0 : Int) ≤ l[k].alight)) then (decide ((l[k].alight : Int) ≤ tick)) else false)) 65 rfl rfl rfl (X_pickB rfl (fun h => gbT h) (fun _ => rfl)) ?_
          refine RL.nil ?_
          refine RW.cond rfl (fun hcd => ?_) (fun hcd => ?_)
          · -- slot 65: True
            refine RW.region ?_
            refine RL.opd (v := dn) 66 rfl rfl rfl (X_move rfl) ?_
            refine RL.opd (v := .int .i64 (k : Nat)) 67 rfl rfl rfl (X_move rfl) ?_
            refine RL.lit1 (v := .int .i64 (k : Nat)) rfl rfl ⟨rfl, rfl⟩ Try.underlying27 Try.inf3 rfl (by decide) rfl rfl (fun B60 w61 ge64 hB63 K62 => ?_)
            have gb_B60 : w.heap.size ≤ B60 := Nat.le_trans KK22.size ge64
            have ne65 : B1 ≠ B60 := by have := hat.lt; omega
            have ne66 : B11 ≠ B60 := by have := hB21.lt; omega
            have ne_wt_B60 : ∀ g, Value.ownBlock (wt) = some g → g ≠ B60 := fun g hg => by have := owns_lt hwt g hg; omega
            have ne_dn_B60 : ∀ g, Value.ownBlock (dn) = some g → g ≠ B60 := fun g hg => by have := owns_lt hdn g hg; omega
            have sz67 := K62.size
            replace hat := K62.at_ hat (fun h => h)
            replace hB21 := K62.at_ hB21 (fun h => h)
            replace hwt := K62.owns hwt (fun _ _ h => h)
            replace hdn := K62.owns hdn (fun _ _ h => h)
            have KK68 := KK22.trans K62
            refine RL.append rfl rfl ⟨rfl, rfl⟩ Try.underlying27 Try.inf3 rfl rfl hdn rfl rfl hB63.news rfl (by omega) (by omega) (fun v69 w70 ho72 K71 hl73 => ?_)
            have sz74 := K71.size
            have ne_dn_B1_ : ∀ g, Value.ownBlock (v69) = some g → g ≠ B1 := by
              intro g hg
              rcases hl73 with e | e
              · exact ne_dn_B1 g (e ▸ hg)
              · rw [e] at hg; cases hg; have := hat.lt; omega
            replace hat := K71.at_ hat (fun h => ne_dn_B1 B1 h rfl)
            replace ne_dn_B1 := ne_dn_B1_
            have ne_dn_B11_ : ∀ g, Value.ownBlock (v69) = some g → g ≠ B11 := by
              intro g hg
              rcases hl73 with e | e
              · exact ne_dn_B11 g (e ▸ hg)
              · rw [e] at hg; cases hg; have := hB21.lt; omega
            replace hB21 := K71.at_ hB21 (fun h => ne_dn_B11 B11 h rfl)
            replace ne_dn_B11 := ne_dn_B11_
            have ne_dn_B60_ : ∀ g, Value.ownBlock (v69) = some g → g ≠ B60 := by
              intro g hg
              rcases hl73 with e | e
              · exact ne_dn_B60 g (e ▸ hg)
              · rw [e] at hg; cases hg; have := hB63.lt; omega
            replace hB63 := K71.at_ hB63 (fun h => ne_dn_B60 B60 h rfl)
            replace ne_dn_B60 := ne_dn_B60_
            have hdis75 : ∀ g, Value.ownBlock (wt) = some g → Value.ownBlock (v69) = some g → False := by
              intro g h2 h1
              rcases hl73 with e | e
              · exact hdis g h2 (e ▸ h1)
              · rw [e] at h1; cases h1; have := owns_lt hwt _ h2; omega
            replace hwt := K71.owns hwt (fun g hg h => hdis g hg h)
            have hge76 : ∀ g, Value.ownBlock (v69) = some g → w.heap.size ≤ g := by
              intro g hg
              rcases hl73 with e | e
              · exact hgd g (e ▸ hg)
              · rw [e] at hg; cases hg; exact KK68.size
            have KK77 := KK68.trans_new K71 (fun i hi h => by have := hgd i h; omega)
            refine RL.opd (v := v69) 8 rfl rfl rfl (X_assign rfl) ?_
            refine RL.nil ?_
            refine RW.region ?_
            refine RL.opd (v := .int .i64 (k : Nat)) 31 rfl rfl rfl (X_move rfl) ?_
            refine RL.opd (v := .int .i64 (((k : Nat) : Int) + 1)) 32 rfl rfl rfl (X_add rfl rfl (by omega) rfl) ?_
            refine RL.opd (v := .int .i64 (((k : Nat) : Int) + 1)) 10 rfl rfl rfl (X_assign rfl) ?_
            refine RL.nil ?_
            refine ⟨gk1 - 1, by omega, ⟨rfl, rfl, rfl, rfl⟩, ?_⟩
            have hw2 : waitB tick l[k] = false := hcw
            rw [hw2, cond_false, List.append_nil] at hw1
            have hd2 : doneB tick l[k] = true := hcd
            rw [hd2, cond_true, hid k hlt] at hd1
            refine ⟨wt, v69, k + 1, rfl, rfl, rfl, by omega, by omega, ?_, ?_, hdis75, hat, KK77, hgw, hge76, ne_wt_B1, ne_dn_B1⟩
            · rw [hw1]; exact hwt
            · rw [hd1, List.length_append, ints_append]; exact ho72
          · -- slot 65: False
            refine RW.skip ?_
            refine RW.region ?_
            refine RL.opd (v := .int .i64 (k : Nat)) 31 rfl rfl rfl (X_move rfl) ?_
            refine RL.opd (v := .int .i64 (((k : Nat) : Int) + 1)) 32 rfl rfl rfl (X_add rfl rfl (by omega) rfl) ?_
            refine RL.opd (v := .int .i64 (((k : Nat) : Int) + 1)) 10 rfl rfl rfl (X_assign rfl) ?_
            refine RL.nil ?_
            refine ⟨gk1 - 1, by omega, ⟨rfl, rfl, rfl, rfl⟩, ?_⟩
            have hw2 : waitB tick l[k] = false := hcw
            rw [hw2, cond_false, List.append_nil] at hw1
            have hd2 : doneB tick l[k] = false := hcd
            rw [hd2, cond_false, List.append_nil] at hd1
            refine ⟨wt, dn, k + 1, rfl, rfl, rfl, by omega, by omega, ?_, ?_, hdis, hat, KK22, hgw, hgd, ne_wt_B1, ne_dn_B1⟩
            · rw [hw1]; exact hwt
            · rw [hd1]; exact hdn
      · -- slot 30: False
        refine RW.exit ?_
        refine RW.seq ?_
        refine RW.seq ?_
        refine RW.region ?_
        refine RL.opd (v := .int .i64 0) 12 rfl rfl rfl (X_assign rfl) ?_
        refine RL.nil ?_
        refine RW.block ?_
        obtain rfl : k = l.length := by have := of_decide_eq_false hlt; omega
        rw [List.take_length] at hwt hdn
        refine RW.loop (fun gk φ wr => (φ 1 = .int .i64 car ∧ φ 2 = .int .i64 tick ∧ φ 3 = .pointer (some ⟨B1, 0, none⟩) ∧ φ 7 = wt ∧ φ 8 = dn) ∧ ∃ (wh : Value) (m : Nat), φ 9 = wh ∧ φ 12 = .int .i64 (m : Nat) ∧ m ≤ ls.length ∧ gk + m = ls.length ∧ wr.ownsRow 0 3 1 wt (sel (waitB tick) l).length (ints (sel (waitB tick) l)) ∧ wr.ownsRow 0 3 1 dn (sel (doneB tick) l).length (ints (sel (doneB tick) l)) ∧ wr.ownsRow 0 3 1 wh m (ints ((ls.take m).map (posAt · tick))) ∧ (∀ g, Value.ownBlock wh = some g → Value.ownBlock wt = some g → False) ∧ (∀ g, Value.ownBlock wh = some g → Value.ownBlock dn = some g → False) ∧ At wr B1 (.cells #[.slice A l.length cap, .slice A2 ls.length c2, .int .i64 used] 25) ∧ Keeps none_ w wr ∧ (∀ g, Value.ownBlock wh = some g → w.heap.size ≤ g) ∧ (∀ g, Value.ownBlock wh = some g → g ≠ B1)) ls.length ?_ ?_
        · exact ⟨⟨rfl, rfl, rfl, rfl, rfl⟩, _, 0, rfl, rfl, Nat.zero_le _, rfl, hwt, hdn, World.ownsRow_nil _ _ _ _, (fun g h => by cases h), (fun g h => by cases h), hat, hK, (fun g h => by cases h), (fun g h => by cases h)⟩
        · rintro gk2 φ wr2 ⟨⟨h_1, h_2, h_3, h_7, h_8⟩, wh, m, h_9, h_12, hm, hgm, hwt, hdn, hwh, hdis1, hdis2, hat, hK, hgh, ne_wh_B1⟩
          obtain ⟨φ0, rfl⟩ : ∃ φ0, φ = upd (upd (upd (upd (upd (upd (upd φ0 1 (.int .i64 car)) 2 (.int .i64 tick)) 3 (.pointer (some ⟨B1, 0, none⟩))) 7 (wt)) 8 (dn)) 9 (wh)) 12 (.int .i64 (m : Nat)) := ⟨φ, by rw [upd_of h_1, upd_of h_2, upd_of h_3, upd_of h_7, upd_of h_8, upd_of h_9, upd_of h_12]⟩
          clear h_1 h_2 h_3 h_7 h_8 h_9 h_12
          have hsz := hK.size
          refine RW.seq ?_
          refine RW.seq ?_
          refine RW.region ?_
          refine RL.opd (v := .int .i64 (m : Nat)) 70 rfl rfl rfl (X_move rfl) ?_
          refine RL.opd (v := .pointer (some ⟨B1, 1, none⟩)) 71 rfl rfl rfl (X_fieldAddr Try.underlying25 rfl Try.inf23 rfl rfl) ?_
          refine RL.opd (v := .slice A2 ls.length c2) 72 rfl rfl rfl (X_load Try.underlying23 rfl rfl (hat.cell _)) ?_
          refine RL.opd (v := .int .i64 (ls.length : Nat)) 73 rfl rfl rfl (X_len Try.underlying23 rfl) ?_
          refine RL.opd (v := .bool (decide (((m : Nat) : Int) < (ls.length : Nat)))) 74 rfl rfl rfl (X_lss rfl rfl) ?_
          refine RL.nil ?_
          refine RW.cond rfl (fun hlt2 => ?_) (fun hlt2 => ?_)
          · -- slot 74: True
            refine RW.skip ?_
            refine RW.seq ?_
            refine RW.block ?_
            refine RW.seq ?_
            have hlt2 := of_decide_eq_true hlt2
            have hlt2 : m < ls.length := by omega
            obtain ⟨b2, o2, C, cc, rfl, hck2, hrow⟩ := hls.get hlt2
            have hok := hfw.legs m hlt2
            refine RW.region ?_
            refine RL.opd (v := .pointer (some ⟨B1, 1, none⟩)) 78 rfl rfl rfl (X_fieldAddr Try.underlying25 rfl Try.inf23 rfl rfl) ?_
            refine RL.opd (v := .slice (some ⟨b2, o2, none⟩) ls.length c2) 79 rfl rfl rfl (X_load Try.underlying23 rfl rfl (hat.cell _)) ?_
            refine RL.opd (v := .int .i64 (m : Nat)) 80 rfl rfl rfl (X_move rfl) ?_
            refine RL.opd (v := .pointer (some ⟨b2, o2 + (m) * 1, none⟩)) 81 rfl rfl rfl (X_indexAddr Try.underlying23 Try.inf34 rfl rfl (by omega)) ?_
            refine RL.opd (v := .slice C ls[m].length cc) 82 rfl rfl rfl (X_load Try.underlying34 rfl rfl (hK.cell hck2 (fun h => h))) ?_
            refine RL.opd (v := .int .i64 tick) 83 rfl rfl rfl (X_move rfl) ?_
            refine RL.call rfl (X_callF Try.en8 rfl) ⟨rfl, rfl⟩ (refat_any C cc ls[m] wr2 tick (by omega) (by have := hok.len; omega) (hrow.keep hK (apart_none _)) hok.ok) ?_
            rintro e79 w78 ⟨dd, bx, rfl, hKr⟩
            refine ⟨_, rfl, ?_⟩
            have sz80 := hKr.size
            replace hat := hKr.at_ hat (fun h => h)
            replace hwt := hKr.owns hwt (fun _ _ h => h)
            replace hdn := hKr.owns hdn (fun _ _ h => h)
            replace hwh := hKr.owns hwh (fun _ _ h => h)
            have KK81 := hK.trans hKr
            refine RL.opd (v := .tuple #[.agg #[.int .i64 (posAt ls[m] tick), .bool dd], .bool bx]) 77 rfl rfl rfl (X_move rfl) ?_
            refine RL.opd (v := .agg #[.int .i64 (posAt ls[m] tick), .bool dd]) 85 rfl rfl rfl (X_extract rfl rfl) ?_
            refine RL.opd (v := .bool bx) 86 rfl rfl rfl (X_extract rfl rfl) ?_
            refine RL.alloc rfl rfl Try.inf31 ⟨rfl, rfl⟩ (fun B82 w83 ge86 hB85 K84 => ?_)
            have gb_B82 : w.heap.size ≤ B82 := Nat.le_trans KK81.size ge86
            have ne87 : B1 ≠ B82 := by have := hat.lt; omega
            have ne_wt_B82 : ∀ g, Value.ownBlock (wt) = some g → g ≠ B82 := fun g hg => by have := owns_lt hwt g hg; omega
            have ne_dn_B82 : ∀ g, Value.ownBlock (dn) = some g → g ≠ B82 := fun g hg => by have := owns_lt hdn g hg; omega
            have ne_wh_B82 : ∀ g, Value.ownBlock (wh) = some g → g ≠ B82 := fun g hg => by have := owns_lt hwh g hg; omega
            have sz88 := K84.size
            replace hat := K84.at_ hat (fun h => h)
            replace hwt := K84.owns hwt (fun _ _ h => h)
            replace hdn := K84.owns hdn (fun _ _ h => h)
            replace hwh := K84.owns hwh (fun _ _ h => h)
            have KK89 := KK81.trans K84
            refine RL.storeAt (v := .agg #[.int .i64 (posAt ls[m] tick), .bool dd]) rfl rfl rfl Try.inf31 rfl rfl rfl rfl hB85 (Nat.le_of_ble_eq_true rfl) (fun w90 hB92 K91 => ?_)
            try (rw [splice_all rfl] at hB92)
            replace hat := K91.at_ hat (by intro h; exact absurd h (by omega))
            replace hwt := K91.owns hwt (fun g hg h => ne_wt_B82 g hg h)
            replace hdn := K91.owns hdn (fun g hg h => ne_dn_B82 g hg h)
            replace hwh := K91.owns hwh (fun g hg h => ne_wh_B82 g hg h)
            have KK93 := KK89.trans_new K91 (fun i hi h => absurd h (by omega))
            refine RL.opd (v := .bool bx) 14 rfl rfl rfl (X_assign rfl) ?_
            refine RL.nil ?_
            refine RW.region ?_
            refine RL.opd (v := wh) 87 rfl rfl rfl (X_move rfl) ?_
            refine RL.opd (v := .pointer (some ⟨B82, 0, none⟩)) 88 rfl rfl rfl (X_fieldAddr Try.underlying31 rfl Try.inf3 rfl rfl) ?_
            refine RL.opd (v := .int .i64 (posAt ls[m] tick)) 89 rfl rfl rfl (X_load Try.underlying3 rfl rfl (hB92.cell _)) ?_
            refine RL.lit1 (v := .int .i64 (posAt ls[m] tick)) rfl rfl ⟨rfl, rfl⟩ Try.underlying27 Try.inf3 rfl (by decide) rfl rfl (fun B94 w95 ge98 hB97 K96 => ?_)
            have gb_B94 : w.heap.size ≤ B94 := Nat.le_trans KK93.size ge98
            have ne99 : B1 ≠ B94 := by have := hat.lt; omega
            have ne100 : B82 ≠ B94 := by have := hB92.lt; omega
            have ne_wt_B94 : ∀ g, Value.ownBlock (wt) = some g → g ≠ B94 := fun g hg => by have := owns_lt hwt g hg; omega
            have ne_dn_B94 : ∀ g, Value.ownBlock (dn) = some g → g ≠ B94 := fun g hg => by have := owns_lt hdn g hg; omega
            have ne_wh_B94 : ∀ g, Value.ownBlock (wh) = some g → g ≠ B94 := fun g hg => by have := owns_lt hwh g hg; omega
            have sz101 := K96.size
            replace hat := K96.at_ hat (fun h => h)
            replace hB92 := K96.at_ hB92 (fun h => h)
            replace hwt := K96.owns hwt (fun _ _ h => h)
            replace hdn := K96.owns hdn (fun _ _ h => h)
            replace hwh := K96.owns hwh (fun _ _ h => h)
            have KK102 := KK93.trans K96
            refine RL.append rfl rfl ⟨rfl, rfl⟩ Try.underlying27 Try.inf3 rfl rfl hwh rfl rfl hB97.news rfl (by omega) (by omega) (fun v103 w104 ho106 K105 hl107 => ?_)
            have sz108 := K105.size
            have ne_wh_B1_ : ∀ g, Value.ownBlock (v103) = some g → g ≠ B1 := by
              intro g hg
              rcases hl107 with e | e
              · exact ne_wh_B1 g (e ▸ hg)
              · rw [e] at hg; cases hg; have := hat.lt; omega
            replace hat := K105.at_ hat (fun h => ne_wh_B1 B1 h rfl)
            replace ne_wh_B1 := ne_wh_B1_
            have ne_wh_B82_ : ∀ g, Value.ownBlock (v103) = some g → g ≠ B82 := by
              intro g hg
              rcases hl107 with e | e
              · exact ne_wh_B82 g (e ▸ hg)
              · rw [e] at hg; cases hg; have := hB92.lt; omega
            replace hB92 := K105.at_ hB92 (fun h => ne_wh_B82 B82 h rfl)
            replace ne_wh_B82 := ne_wh_B82_
            have ne_wh_B94_ : ∀ g, Value.ownBlock (v103) = some g → g ≠ B94 := by
              intro g hg
              rcases hl107 with e | e
              · exact ne_wh_B94 g (e ▸ hg)
              · rw [e] at hg; cases hg; have := hB97.lt; omega
            replace hB97 := K105.at_ hB97 (fun h => ne_wh_B94 B94 h rfl)
            replace ne_wh_B94 := ne_wh_B94_
            have hdis109 : ∀ g, Value.ownBlock (v103) = some g → Value.ownBlock (wt) = some g → False := by
              intro g h1 h2
              rcases hl107 with e | e
              · exact hdis1 g (e ▸ h1) h2
              · rw [e] at h1; cases h1; have := owns_lt hwt _ h2; omega
            replace hwt := K105.owns hwt (fun g hg h => hdis1 g h hg)
            have hdis110 : ∀ g, Value.ownBlock (v103) = some g → Value.ownBlock (dn) = some g → False := by
              intro g h1 h2
              rcases hl107 with e | e
              · exact hdis2 g (e ▸ h1) h2
              · rw [e] at h1; cases h1; have := owns_lt hdn _ h2; omega
            replace hdn := K105.owns hdn (fun g hg h => hdis2 g h hg)
            have hge111 : ∀ g, Value.ownBlock (v103) = some g → w.heap.size ≤ g := by
              intro g hg
              rcases hl107 with e | e
              · exact hgh g (e ▸ hg)
              · rw [e] at hg; cases hg; exact KK102.size
            have KK112 := KK102.trans_new K105 (fun i hi h => by have := hgh i h; omega)
            refine RL.opd (v := v103) 9 rfl rfl rfl (X_assign rfl) ?_
            refine RL.nil ?_
            refine RW.region ?_
            refine RL.opd (v := .int .i64 (m : Nat)) 75 rfl rfl rfl (X_move rfl) ?_
            refine RL.opd (v := .int .i64 (((m : Nat) : Int) + 1)) 76 rfl rfl rfl (X_add rfl rfl (by omega) rfl) ?_
            refine RL.opd (v := .int .i64 (((m : Nat) : Int) + 1)) 12 rfl rfl rfl (X_assign rfl) ?_
            refine RL.nil ?_
            refine ⟨gk2 - 1, by omega, ⟨rfl, rfl, rfl, rfl, rfl⟩, ?_⟩
            refine ⟨v103, m + 1, rfl, rfl, by omega, by omega, hwt, hdn, ?_, hdis109, hdis110, hat, KK112, hge111, ne_wh_B1⟩
            rw [List.take_succ_eq_append_getElem hlt2, List.map_append, ints_append]
            exact ho106
          · -- slot 74: False
            refine RW.exit ?_
            refine RW.seq ?_
            obtain rfl : m = ls.length := by have := of_decide_eq_false hlt2; omega
            rw [List.take_length] at hwh
            refine RW.drawK Try.mixed (fun w113 hw114 hcl hS => ?_)
            have K115 : Keeps none_ wr2 w113 := by rw [hw114]; exact Keeps.drew _ _
            clear hw114
            have sz116 := K115.size
            replace hat := K115.at_ hat (fun h => h)
            replace hwt := K115.owns hwt (fun _ _ h => h)
            replace hdn := K115.owns hdn (fun _ _ h => h)
            replace hwh := K115.owns hwh (fun _ _ h => h)
            have KK117 := hK.trans K115
            have hS0118 := hat
            refine RD.takesK (by kernel_rfl) [0, 1, 2, 4, 5, 6, 7] 28 rfl (by kernel_rfl) hcl hS ?_
            refine RQ.opd 92 rfl rfl rfl (Yld.K (v := .agg #[.slice A l.length cap, .slice A2 ls.length c2, .int .i64 used]) rfl (fun _ hk => (X_loadAgg [.slice A l.length cap, .slice A2 ls.length c2, .int .i64 used] Try.underlying25 rfl Try.inf25 rfl (At.cells0 (hk.at_ hS0118 (fun h => h)))))) ?_
            refine RQ.opd 93 rfl rfl rfl (Yld.plain (v := .int .i64 car) rfl (fun _ _ => (X_move rfl))) ?_
            refine RQ.opd 94 rfl rfl rfl (Yld.plain (v := .int .i64 tick) rfl (fun _ _ => (X_move rfl))) ?_
            refine RQ.opd 96 rfl rfl rfl (Yld.plain (v := .pointer (some ⟨B1, 0, none⟩)) rfl (fun _ _ => (X_fieldAddr Try.underlying25 rfl Try.inf22 rfl rfl))) ?_
            refine RQ.opd 97 rfl rfl rfl (Yld.K (v := .slice A l.length cap) rfl (fun _ hk => (X_load Try.underlying22 rfl rfl (hk.cell (hS0118.cell _) (fun h => h))))) ?_
            refine RQ.opd 98 rfl rfl rfl (Yld.plain (v := .int .i64 car) rfl (fun _ _ => (X_move rfl))) ?_
            refine RQ.opd 99 rfl rfl rfl (Yld.plain (v := .int .i64 tick) rfl (fun _ _ => (X_move rfl))) ?_
            refine RQ.nil ?_
            clear hcl hS
            intro hcl hS
            refine RD.one (i := 3) rfl (by kernel_rfl) hcl hS ?_
            refine RD.calls (by kernel_rfl) hcl rfl rfl (X_callF Try.en10 rfl) ⟨rfl, rfl⟩ (riders10 A A2 cap ls.length c2 used l w113 car tick (by omega) hid hbr (hT.keep KK117 (apart_none _))) ?_
            rintro e120 w119 ⟨r1, rfl, hr1, hKa, hga⟩
            refine ⟨_, rfl, (SK.next hS hKa), ?_⟩
            clear hcl hS
            intro hcl hS
            have sz121 := hKa.size
            replace hat := hKa.at_ hat (fun h => h)
            replace hwt := hKa.owns hwt (fun _ _ h => h)
            replace hdn := hKa.owns hdn (fun _ _ h => h)
            replace hwh := hKa.owns hwh (fun _ _ h => h)
            have KK122 := KK117.trans hKa
            refine RD.one (i := 8) rfl (by kernel_rfl) hcl hS ?_
            refine RD.calls (by kernel_rfl) hcl rfl rfl (X_callF Try.en11 rfl) ⟨rfl, rfl⟩ (riders_any A cap l w119 car tick (by omega) hid (hT.keep KK122 (apart_none _))) ?_
            rintro e124 w123 ⟨r2, rfl, hr2, hKb, hgb⟩
            refine ⟨_, rfl, (SK.next hS hKb), ?_⟩
            clear hcl hS
            intro hcl hS
            have sz125 := hKb.size
            replace hat := hKb.at_ hat (fun h => h)
            replace hwt := hKb.owns hwt (fun _ _ h => h)
            replace hdn := hKb.owns hdn (fun _ _ h => h)
            replace hwh := hKb.owns hwh (fun _ _ h => h)
            replace hr1 := hKb.owns hr1 (fun _ _ h => h)
            have KK126 := KK122.trans hKb
            refine RD.one (i := 9) rfl (by kernel_rfl) hcl hS ?_
            refine RD.calls (by kernel_rfl) hcl rfl rfl (X_callF Try.en9 rfl) ⟨rfl, rfl⟩ (equal_same r1 r2 (ridK l car tick l.length) w123 (by have := ridK_len l car tick l.length hid; omega) hr1 hr2) ?_
            rintro e128 w127 ⟨rfl, hKc⟩
            refine ⟨_, rfl, (SK.next hS hKc), ?_⟩
            clear hcl hS
            intro hcl hS
            have sz129 := hKc.size
            replace hat := hKc.at_ hat (fun h => h)
            replace hwt := hKc.owns hwt (fun _ _ h => h)
            replace hdn := hKc.owns hdn (fun _ _ h => h)
            replace hwh := hKc.owns hwh (fun _ _ h => h)
            replace hr1 := hKc.owns hr1 (fun _ _ h => h)
            replace hr2 := hKc.owns hr2 (fun _ _ h => h)
            have KK130 := KK126.trans hKc
            refine RD.takesK (by kernel_rfl) [10, 11, 12, 14] 21 rfl (by kernel_rfl) hcl hS ?_
            refine RQ.opd 102 rfl rfl rfl (Yld.plain (v := .bool true) rfl (fun _ _ => (X_move rfl))) ?_
            refine RQ.opd 103 rfl rfl rfl (Yld.gK (v := .agg #[.slice A l.length cap, .slice A2 ls.length c2, .int .i64 used]) rfl rfl rfl rfl (fun hg _ hk => (X_loadAgg [.slice A l.length cap, .slice A2 ls.length c2, .int .i64 used] Try.underlying25 rfl Try.inf25 rfl (At.cells0 (hk.at_ hS0118 (fun h => h)))))) ?_
            refine RQ.opd 104 rfl rfl rfl (Yld.guard (v := .int .i64 tick) rfl rfl rfl rfl (fun hg _ _ => (X_move rfl))) ?_
            refine RQ.opd 106 rfl rfl rfl (Yld.guard (v := wt) rfl rfl rfl rfl (fun hg _ _ => (X_move rfl))) ?_
            refine RQ.nil ?_
            clear hcl hS
            intro hcl hS
            refine RD.one (i := 13) rfl (by kernel_rfl) hcl hS ?_
            refine RS.gcallT (by kernel_rfl) hcl rfl rfl rfl rfl rfl ⟨rfl, rfl⟩ (X_callF Try.en12 rfl) (waiting_any A A2 cap ls.length c2 used l w127 tick (by omega) (hT.keep KK130 (apart_none _))) ?_
            rintro e132 w131 ⟨q1, rfl, hq1, hKd, hgd1⟩
            refine ⟨_, rfl, (SK.next hS hKd), ?_⟩
            clear hcl hS
            intro hcl hS
            have sz133 := hKd.size
            replace hat := hKd.at_ hat (fun h => h)
            replace hwt := hKd.owns hwt (fun _ _ h => h)
            replace hdn := hKd.owns hdn (fun _ _ h => h)
            replace hwh := hKd.owns hwh (fun _ _ h => h)
            replace hr1 := hKd.owns hr1 (fun _ _ h => h)
            replace hr2 := hKd.owns hr2 (fun _ _ h => h)
            have KK134 := KK130.trans hKd
            refine RD.one (i := 15) rfl (by kernel_rfl) hcl hS ?_
            refine RS.gcallT (by kernel_rfl) hcl rfl rfl rfl rfl rfl ⟨rfl, rfl⟩ (X_callF Try.en9 rfl) (equal_same q1 wt (sel (waitB tick) l) w131 (by have := sel_len (waitB tick) l l.length; rw [List.take_length] at this; omega) hq1 hwt) ?_
            rintro e136 w135 ⟨rfl, hKe⟩
            refine ⟨_, rfl, (SK.next hS hKe), ?_⟩
            clear hcl hS
            intro hcl hS
            have sz137 := hKe.size
            replace hat := hKe.at_ hat (fun h => h)
            replace hwt := hKe.owns hwt (fun _ _ h => h)
            replace hdn := hKe.owns hdn (fun _ _ h => h)
            replace hwh := hKe.owns hwh (fun _ _ h => h)
            replace hr1 := hKe.owns hr1 (fun _ _ h => h)
            replace hr2 := hKe.owns hr2 (fun _ _ h => h)
            replace hq1 := hKe.owns hq1 (fun _ _ h => h)
            have KK138 := KK134.trans hKe
            refine RD.takesK (by kernel_rfl) [16, 17, 18, 19, 21] 14 rfl (by kernel_rfl) hcl hS ?_
            refine RQ.opd 108 rfl rfl rfl (Yld.plain (v := .bool true) rfl (fun _ _ => (X_pickT rfl rfl))) ?_
            refine RQ.opd 109 rfl rfl rfl (Yld.plain (v := .bool true) rfl (fun _ _ => (X_move rfl))) ?_
            refine RQ.opd 110 rfl rfl rfl (Yld.gK (v := .agg #[.slice A l.length cap, .slice A2 ls.length c2, .int .i64 used]) rfl rfl rfl rfl (fun hg _ hk => (X_loadAgg [.slice A l.length cap, .slice A2 ls.length c2, .int .i64 used] Try.underlying25 rfl Try.inf25 rfl (At.cells0 (hk.at_ hS0118 (fun h => h)))))) ?_
            refine RQ.opd 111 rfl rfl rfl (Yld.guard (v := .int .i64 tick) rfl rfl rfl rfl (fun hg _ _ => (X_move rfl))) ?_
            refine RQ.opd 113 rfl rfl rfl (Yld.guard (v := dn) rfl rfl rfl rfl (fun hg _ _ => (X_move rfl))) ?_
            refine RQ.nil ?_
            clear hcl hS
            intro hcl hS
            refine RD.one (i := 20) rfl (by kernel_rfl) hcl hS ?_
            refine RS.gcallT (by kernel_rfl) hcl rfl rfl rfl rfl rfl ⟨rfl, rfl⟩ (X_callF Try.en13 rfl) (done_any A A2 cap ls.length c2 used l w135 tick (by omega) (hT.keep KK138 (apart_none _))) ?_
            rintro e140 w139 ⟨q2, rfl, hq2, hKf, hgf⟩
            refine ⟨_, rfl, (SK.next hS hKf), ?_⟩
            clear hcl hS
            intro hcl hS
            have sz141 := hKf.size
            replace hat := hKf.at_ hat (fun h => h)
            replace hwt := hKf.owns hwt (fun _ _ h => h)
            replace hdn := hKf.owns hdn (fun _ _ h => h)
            replace hwh := hKf.owns hwh (fun _ _ h => h)
            replace hr1 := hKf.owns hr1 (fun _ _ h => h)
            replace hr2 := hKf.owns hr2 (fun _ _ h => h)
            replace hq1 := hKf.owns hq1 (fun _ _ h => h)
            have KK142 := KK138.trans hKf
            refine RD.one (i := 22) rfl (by kernel_rfl) hcl hS ?_
            refine RS.gcallT (by kernel_rfl) hcl rfl rfl rfl rfl rfl ⟨rfl, rfl⟩ (X_callF Try.en9 rfl) (equal_same q2 dn (sel (doneB tick) l) w139 (by have := sel_len (doneB tick) l l.length; rw [List.take_length] at this; omega) hq2 hdn) ?_
            rintro e144 w143 ⟨rfl, hKg⟩
            refine ⟨_, rfl, (SK.next hS hKg), ?_⟩
            clear hcl hS
            intro hcl hS
            have sz145 := hKg.size
            replace hat := hKg.at_ hat (fun h => h)
            replace hwt := hKg.owns hwt (fun _ _ h => h)
            replace hdn := hKg.owns hdn (fun _ _ h => h)
            replace hwh := hKg.owns hwh (fun _ _ h => h)
            replace hr1 := hKg.owns hr1 (fun _ _ h => h)
            replace hr2 := hKg.owns hr2 (fun _ _ h => h)
            replace hq1 := hKg.owns hq1 (fun _ _ h => h)
            replace hq2 := hKg.owns hq2 (fun _ _ h => h)
            have KK146 := KK142.trans hKg
            refine RD.takesK (by kernel_rfl) [23, 24, 25, 26, 28] 7 rfl (by kernel_rfl) hcl hS ?_
            refine RQ.opd 115 rfl rfl rfl (Yld.plain (v := .bool true) rfl (fun _ _ => (X_pickT rfl rfl))) ?_
            refine RQ.opd 116 rfl rfl rfl (Yld.plain (v := .bool true) rfl (fun _ _ => (X_move rfl))) ?_
            refine RQ.opd 117 rfl rfl rfl (Yld.gK (v := .agg #[.slice A l.length cap, .slice A2 ls.length c2, .int .i64 used]) rfl rfl rfl rfl (fun hg _ hk => (X_loadAgg [.slice A l.length cap, .slice A2 ls.length c2, .int .i64 used] Try.underlying25 rfl Try.inf25 rfl (At.cells0 (hk.at_ hS0118 (fun h => h)))))) ?_
            refine RQ.opd 118 rfl rfl rfl (Yld.guard (v := .int .i64 tick) rfl rfl rfl rfl (fun hg _ _ => (X_move rfl))) ?_
            refine RQ.opd 120 rfl rfl rfl (Yld.guard (v := wh) rfl rfl rfl rfl (fun hg _ _ => (X_move rfl))) ?_
            refine RQ.nil ?_
            clear hcl hS
            intro hcl hS
            refine RD.one (i := 27) rfl (by kernel_rfl) hcl hS ?_
            refine RS.gcallT (by kernel_rfl) hcl rfl rfl rfl rfl rfl ⟨rfl, rfl⟩ (X_callF Try.en14 rfl) (where_any A A2 l.length cap c2 used ls hs w143 tick (by omega) (by omega) (hls.keep KK146) hfw.legs) ?_
            rintro e148 w147 ⟨q3, rfl, hq3, hKh, hgq3⟩
            refine ⟨_, rfl, (SK.next hS hKh), ?_⟩
            clear hcl hS
            intro hcl hS
            have sz149 := hKh.size
            replace hat := hKh.at_ hat (fun h => h)
            replace hwt := hKh.owns hwt (fun _ _ h => h)
            replace hdn := hKh.owns hdn (fun _ _ h => h)
            replace hwh := hKh.owns hwh (fun _ _ h => h)
            replace hr1 := hKh.owns hr1 (fun _ _ h => h)
            replace hr2 := hKh.owns hr2 (fun _ _ h => h)
            replace hq1 := hKh.owns hq1 (fun _ _ h => h)
            replace hq2 := hKh.owns hq2 (fun _ _ h => h)
            have KK150 := KK146.trans hKh
            refine RD.one (i := 29) rfl (by kernel_rfl) hcl hS ?_
            refine RS.gcallT (by kernel_rfl) hcl rfl rfl rfl rfl rfl ⟨rfl, rfl⟩ (X_callF Try.en9 rfl) (equal_same q3 wh (ls.map (posAt · tick)) w147 (by simp; omega) (owns_cast hq3 (by simp) rfl) (owns_cast hwh (by simp) rfl)) ?_
            rintro e152 w151 ⟨rfl, hKi⟩
            refine ⟨_, rfl, (SK.next hS hKi), ?_⟩
            clear hcl hS
            intro hcl hS
            have sz153 := hKi.size
            replace hat := hKi.at_ hat (fun h => h)
            replace hwt := hKi.owns hwt (fun _ _ h => h)
            replace hdn := hKi.owns hdn (fun _ _ h => h)
            replace hwh := hKi.owns hwh (fun _ _ h => h)
            replace hr1 := hKi.owns hr1 (fun _ _ h => h)
            replace hr2 := hKi.owns hr2 (fun _ _ h => h)
            replace hq1 := hKi.owns hq1 (fun _ _ h => h)
            replace hq2 := hKi.owns hq2 (fun _ _ h => h)
            replace hq3 := hKi.owns hq3 (fun _ _ h => h)
            have KK154 := KK150.trans hKi
            refine RD.takesK (by kernel_rfl) [30, 31] 3 rfl (by kernel_rfl) hcl hS ?_
            refine RQ.opd 122 rfl rfl rfl (Yld.plain (v := .bool true) rfl (fun _ _ => (X_pickT rfl rfl))) ?_
            refine RQ.opd 123 rfl rfl rfl (Yld.plain (v := .bool true) rfl (fun _ _ => (X_move rfl))) ?_
            refine RQ.nil ?_
            clear hcl hS
            intro hcl hS
            refine RD.one (i := 32) rfl (by kernel_rfl) hcl hS ?_
            refine RS.gcallT (by kernel_rfl) hcl rfl rfl rfl rfl rfl ⟨rfl, rfl⟩ (X_callF Try.en15 rfl) (alive_any w151) ?_
            rintro e156 w155 ⟨rfl, hKj⟩
            refine ⟨_, rfl, (SK.next hS hKj), ?_⟩
            clear hcl hS
            intro hcl hS
            have sz157 := hKj.size
            replace hat := hKj.at_ hat (fun h => h)
            replace hwt := hKj.owns hwt (fun _ _ h => h)
            replace hdn := hKj.owns hdn (fun _ _ h => h)
            replace hwh := hKj.owns hwh (fun _ _ h => h)
            replace hr1 := hKj.owns hr1 (fun _ _ h => h)
            replace hr2 := hKj.owns hr2 (fun _ _ h => h)
            replace hq1 := hKj.owns hq1 (fun _ _ h => h)
            replace hq2 := hKj.owns hq2 (fun _ _ h => h)
            replace hq3 := hKj.owns hq3 (fun _ _ h => h)
            have KK158 := KK154.trans hKj
            refine RD.takesK (by kernel_rfl) [33, 34] 0 rfl (by kernel_rfl) hcl hS ?_
            refine RQ.opd 125 rfl rfl rfl (Yld.plain (v := .bool true) rfl (fun _ _ => (X_pickT rfl rfl))) ?_
            refine RQ.opd 6 rfl rfl rfl (Yld.plain (v := .bool true) rfl (fun _ _ => (X_assign rfl))) ?_
            refine RQ.nil ?_
            clear hcl hS
            intro hcl hS
            refine RD.done (by kernel_rfl) hcl hS ?_
            refine RW.ret ?_
            exact ret1 (.inl rfl) rfl ⟨rfl, KK158⟩

end Go.Proofs
