/- What a call does, by its model: rows of spans, rota -/
import Derived.Test.YtjahbhpcaenllaaHwRotaM
import Derived.Test.YtjahbhpcaenllaaHwTypes
import Derived.Test.YtjahbhpcaenllaaHwTy2
import Derived.Test.YtjahbhpcaenllaaHwCmpA
namespace Go.Proofs
open Go.RowKit Go.Hw Md
set_option maxRecDepth 20000 in
theorem span_And_any (w : World) (A0_ : Option Addr) (c0_ : Nat) (p0 : List Span) (A1_ : Option Addr) (c1_ : Nat) (p1 : List Span) (hs0 : SL w A0_ c0_ p0 Span.E) (hs1 : SL w A1_ c1_ p1 Span.E) {y : List Span} (H : span_And p0 p1 = some y) :
    Calls Try.prog 63 #[.slice A0_ p0.length c0_, .slice A1_ p1.length c1_] w fun e w' => ∃ v, e = .returned v ∧ OwnR w w' 64 2 Span.E v y ∧ Keeps none_ w w' := by
  unfold span_And at H
  refine calls_of_RW Try.func63 rfl (Nat.le_of_ble_eq_true rfl) ?_
  have hM := SH.start w
  replace hM := hM.startSL hs0
  replace hM := hM.startSL hs1
  refine RW.seq ?_
  refine RW.region ?_
  refine q (v := .slice none 0 0) rfl (X_assign rfl) ?_
  refine RL.nil ?_
  refine RW.seq ?_
  refine RW.region ?_
  refine q (v := .slice none 0 0) rfl (X_assign rfl) ?_
  refine RL.nil ?_
  refine RW.seq ?_
  refine RW.block ?_
  replace hM := hM.addNil 64 2 Span.E
  refine RW.loop (fun gk φ wr => ∃ (A43 : Option Addr) (c44 : Nat) (l45 : List Span) (A46 : Option Addr) (c47 : Nat) (l48 : List Span) (A49 : Option Addr) (c50 : Nat) (l51 : List Span), φ 0 = .slice A43 l45.length c44 ∧ φ 1 = .slice A46 l48.length c47 ∧ φ 5 = .slice A49 l51.length c50 ∧ SH none_ w wr [.own 64 2 A49 c50 l51 Span.E, .sl A46 c47 l48 Span.E, .sl A43 c44 l45 Span.E] ∧ span_And_l1 gk l45 l48 l51 = some y) N0 ?_ ?_
  · exact ⟨A0_, c0_, p0, A1_, c1_, p1, none, 0, ([] : List Span), rfl, rfl, rfl, hM.sel [0, 1, 2] rfl rfl, H⟩
  · rintro gk1 φ w94 ⟨A43, c44, l45, A46, c47, l48, A49, c50, l51, h_0, h_1, h_5, hM, H⟩
    obtain ⟨φ0, rfl⟩ : ∃ φ0, φ = upd (upd (upd φ0 0 (.slice A43 l45.length c44)) 1 (.slice A46 l48.length c47)) 5 (.slice A49 l51.length c50) := ⟨φ, by rw [upd_of h_0, upd_of h_1, upd_of h_5]⟩
    clear h_0 h_1 h_5
    cases gk1 with
    | zero => exact (no_out H).elim
    | succ gk1 =>
      replace H : span_And_l1_b (span_And_l1 gk1) l45 l48 l51 = some y := H
      unfold span_And_l1_b at H
      refine RW.seq ?_
      refine RW.seq ?_
      refine RW.region ?_
      refine q (v := .slice A43 l45.length c44) rfl (X_move rfl) ?_
      refine q (v := .int .i64 (l45.length : Int)) rfl (X_lenE (l := l45) Try.underlying75 rfl) ?_
      refine q (v := .bool (decide ((0 : Int) < (l45.length : Int)))) rfl (X_gtr rfl rfl) ?_
      refine q (v := .bool (decide ((0 : Int) < (l45.length : Int)))) rfl (X_move rfl) ?_
      refine RL.gopd (v := .slice A46 l48.length c47) 11 rfl rfl rfl rfl (fun hg => (X_move rfl)) rfl rfl ?_
      refine RL.gopd (v := .int .i64 (l48.length : Int)) 12 rfl rfl rfl rfl (fun hg => (X_lenE (l := l48) Try.underlying75 (gb_on hg))) rfl rfl ?_
      refine RL.gopd (v := .bool (decide ((0 : Int) < (l48.length : Int)))) 13 rfl rfl rfl rfl (fun hg => (X_gtr (gb_on hg) rfl)) rfl rfl ?_
      refine q (v := .bool (bif decide ((0 : Int) < (l45.length : Int)) then decide ((0 : Int) < (l48.length : Int)) else false)) rfl (X_pickB rfl (fun h => gbT h) (fun _ => rfl)) ?_
      refine RL.nil ?_
      refine RW.cond rfl (fun hc95 => ?_) (fun hc95 => ?_)
      · replace H := brT hc95 H
        refine RW.skip ?_
        refine RW.block ?_
        refine RW.seq ?_
        refine RW.drawKU 20 Try.mixed (fun w96 hw hcl hS => ?_)
        have hM := hM.keep (show Keeps none_ w94 w96 by rw [hw]; exact Keeps.drew _ _)
        clear hw
        have hR3 := hM
        have hKr := Keeps.refl none_ w96
        refine RD.takesKU (by kernel_rfl) [0, 1, 2, 3, 4, 5, 6, 7, 8, 9, 10, 11, 12, 13, 14, 15, 16, 17, 18] 2 rfl (by kernel_rfl) rfl hcl hS ?_
        refine RQ.opd 15 rfl rfl rfl (Yld.plain (v := .slice A43 l45.length c44) rfl (fun _ _ => (X_move rfl))) ?_
        obtain ⟨x97, hx97, H⟩ := bnd_out H
        have hA98 := el_isA Span.ok (hR3.sl 2 rfl).1 hx97
        refine RQ.opd 16 rfl rfl rfl (Yld.plain (v := .pointer (ea A43 ((0 : Int).toNat * 2))) rfl (fun _ _ => (X_indexAddrE Try.underlying75 Try.inf64 rfl rfl (idx_inr hx97) hA98))) ?_
        refine RQ.opd 17 rfl rfl rfl (Yld.plain (v := .pointer (ea A43 ((0 : Int).toNat * 2))) rfl (fun _ _ => (X_fieldAddrE Try.underlying64 rfl Try.inf3 rfl hA98 rfl))) ?_
        refine RQ.opd 18 rfl rfl rfl (Yld.KU (v := .int .i64 x97.From) 21 rfl (by kernel_rfl) (fun _ hk => (X_loadE Try.underlying3 rfl rfl (el_rd Span.ok ((hR3.keep hk).sl 2 rfl).1 hx97 (j := 0) rfl)))) ?_
        refine RQ.opd 19 rfl rfl rfl (Yld.plain (v := .slice A46 l48.length c47) rfl (fun _ _ => (X_move rfl))) ?_
        obtain ⟨x99, hx99, H⟩ := bnd_out H
        have hA100 := el_isA Span.ok (hR3.sl 1 rfl).1 hx99
        refine RQ.opd 20 rfl rfl rfl (Yld.plain (v := .pointer (ea A46 ((0 : Int).toNat * 2))) rfl (fun _ _ => (X_indexAddrE Try.underlying75 Try.inf64 rfl rfl (idx_inr hx99) hA100))) ?_
        refine RQ.opd 21 rfl rfl rfl (Yld.plain (v := .pointer (ea A46 ((0 : Int).toNat * 2))) rfl (fun _ _ => (X_fieldAddrE Try.underlying64 rfl Try.inf3 rfl hA100 rfl))) ?_
        refine RQ.opd 22 rfl rfl rfl (Yld.KU (v := .int .i64 x99.From) 21 rfl (by kernel_rfl) (fun _ hk => (X_loadE Try.underlying3 rfl rfl (el_rd Span.ok ((hR3.keep hk).sl 1 rfl).1 hx99 (j := 0) rfl)))) ?_
        refine RQ.opd 23 rfl rfl rfl (Yld.plain (v := .int .i64 (mx x97.From x99.From)) rfl (fun _ _ => (X_max2 rfl rfl))) ?_
        refine RQ.opd 24 rfl rfl rfl (Yld.plain (v := .slice A43 l45.length c44) rfl (fun _ _ => (X_move rfl))) ?_
        refine RQ.opd 25 rfl rfl rfl (Yld.plain (v := .pointer (ea A43 ((0 : Int).toNat * 2))) rfl (fun _ _ => (X_indexAddrE Try.underlying75 Try.inf64 rfl rfl (idx_inr hx97) hA98))) ?_
        refine RQ.opd 26 rfl rfl rfl (Yld.plain (v := .pointer (ea A43 ((0 : Int).toNat * 2 + 1))) rfl (fun _ _ => (X_fieldAddrE Try.underlying64 rfl Try.inf3 rfl hA98 rfl))) ?_
        refine RQ.opd 27 rfl rfl rfl (Yld.KU (v := .int .i64 x97.To) 21 rfl (by kernel_rfl) (fun _ hk => (X_loadE Try.underlying3 rfl rfl (el_rd Span.ok ((hR3.keep hk).sl 2 rfl).1 hx97 (j := 1) rfl)))) ?_
        refine RQ.opd 28 rfl rfl rfl (Yld.plain (v := .slice A46 l48.length c47) rfl (fun _ _ => (X_move rfl))) ?_
        refine RQ.opd 29 rfl rfl rfl (Yld.plain (v := .pointer (ea A46 ((0 : Int).toNat * 2))) rfl (fun _ _ => (X_indexAddrE Try.underlying75 Try.inf64 rfl rfl (idx_inr hx99) hA100))) ?_
        refine RQ.opd 30 rfl rfl rfl (Yld.plain (v := .pointer (ea A46 ((0 : Int).toNat * 2 + 1))) rfl (fun _ _ => (X_fieldAddrE Try.underlying64 rfl Try.inf3 rfl hA100 rfl))) ?_
        refine RQ.opd 31 rfl rfl rfl (Yld.KU (v := .int .i64 x99.To) 21 rfl (by kernel_rfl) (fun _ hk => (X_loadE Try.underlying3 rfl rfl (el_rd Span.ok ((hR3.keep hk).sl 1 rfl).1 hx99 (j := 1) rfl)))) ?_
        refine RQ.opd 32 rfl rfl rfl (Yld.plain (v := .int .i64 (mn x97.To x99.To)) rfl (fun _ _ => (X_min2 rfl rfl))) ?_
        refine RQ.opd 33 rfl rfl rfl (Yld.plain (v := .agg #[.int .i64 (mx x97.From x99.From), .int .i64 (mn x97.To x99.To)]) rfl (fun _ _ => (X_build (cells := #[.int .i64 (mx x97.From x99.From), .int .i64 (mn x97.To x99.To)]) (by simp only [List.map]; kernel_rfl)))) ?_
        refine RQ.nil ?_
        clear hcl hS
        intro hcl hS
        refine RD.one (i := 19) rfl (by kernel_rfl) hcl hS ?_
        refine RS.ex (by kernel_rfl) hcl rfl rfl (S_alloc hM [.int .i64 0, .int .i64 0] Try.inf64 rfl) ⟨rfl, rfl⟩ ?_
        rintro _ w101 ⟨B102, rfl, hM, hK⟩
        refine ⟨SKU.next rfl hS hK, ?_⟩
        clear hcl hS
        intro hcl hS
        replace hKr := hKr.trans hK
        refine RD.one (i := 20) rfl (by kernel_rfl) hcl hS ?_
        refine RS.exs (by kernel_rfl) hcl rfl rfl (S_store hM 0 [.int .i64 (mx x97.From x99.From), .int .i64 (mn x97.To x99.To)] [.int .i64 (mx x97.From x99.From), .int .i64 (mn x97.To x99.To)] rfl Try.inf64 rfl rfl rfl rfl rfl rfl rfl) rfl ?_
        rintro w103 ⟨hM, hK⟩
        refine ⟨SKU.now hcl rfl, ?_⟩
        clear hcl hS
        intro hcl hS
        refine RD.done (by kernel_rfl) hcl hS ?_
        refine RW.cut (fun φ wr => ∃ (A112 : Option Addr) (c113 : Nat) (l114 : List Span), φ 0 = .slice A43 l45.length c44 ∧ φ 1 = .slice A46 l48.length c47 ∧ φ 5 = .slice A112 l114.length c113 ∧ SH none_ w wr [.own 64 2 A112 c113 l114 Span.E, .sl A46 c47 l48 Span.E, .sl A43 c44 l45 Span.E] ∧ span_And_j2 l45 l48 (span_And_l1 gk1) x97 x99 l114 = some y) ?_ ?_
        · -- up to the join
          refine RW.seq ?_
          refine RW.region ?_
          refine q (v := .pointer (some ⟨B102, 0, none⟩)) rfl (X_fieldAddr Try.underlying64 rfl Try.inf3 rfl rfl) ?_
          refine q (v := .int .i64 (mx x97.From x99.From)) rfl (X_load Try.underlying3 rfl rfl (at_cell (hM.blk 0 rfl) rfl)) ?_
          refine q (v := .pointer (some ⟨B102, 1, none⟩)) rfl (X_fieldAddr Try.underlying64 rfl Try.inf3 rfl rfl) ?_
          refine q (v := .int .i64 (mn x97.To x99.To)) rfl (X_load Try.underlying3 rfl rfl (at_cell (hM.blk 0 rfl) rfl)) ?_
          refine q (v := .bool (decide ((mx x97.From x99.From) < (mn x97.To x99.To)))) rfl (X_lss rfl rfl) ?_
          refine RL.nil ?_
          refine RW.cond rfl (fun hc120 => ?_) (fun hc120 => ?_)
          · replace H := brT hc120 H
            refine RW.region ?_
            refine q (v := .slice A49 l51.length c50) rfl (X_move rfl) ?_
            refine q (v := .agg #[.int .i64 (mx x97.From x99.From), .int .i64 (mn x97.To x99.To)]) rfl (X_loadAgg [.int .i64 (mx x97.From x99.From), .int .i64 (mn x97.To x99.To)] Try.underlying64 rfl Try.inf64 rfl (at_cells (hM.blk 0 rfl) rfl)) ?_
            refine RL.ex rfl (S_lit1 hM Span.E Span.ok (Span.mk (mx x97.From x99.From) (mn x97.To x99.To)) Try.underlying75 Try.inf64 rfl rfl rfl rfl) ⟨rfl, rfl⟩ ?_
            rintro _ w121 ⟨A122, c123, rfl, hM, hK⟩
            obtain ⟨hk125, H⟩ := chk_out H
            refine RL.ex rfl (S_append (l := l51) (ys := [(Span.mk (mx x97.From x99.From) (mn x97.To x99.To))]) hM 2 rfl Span.ok Try.underlying75 Try.inf64 rfl rfl rfl rfl (hM.ownsl 0 rfl) hk125) ⟨rfl, rfl⟩ ?_
            rintro _ w124 ⟨A126, c127, rfl, hM, hK⟩
            refine q (v := .slice A126 ((l51 ++ ([(Span.mk (mx x97.From x99.From) (mn x97.To x99.To))])).length) c127) rfl (X_assign rfl) ?_
            refine RL.nil ?_
            exact ⟨A126, c127, (l51 ++ ([(Span.mk (mx x97.From x99.From) (mn x97.To x99.To))])), rfl, rfl, rfl, hM.sel [2, 3, 4] rfl rfl, H⟩
          · replace H := brF hc120 H
            refine RW.skip ?_
            exact ⟨A49, c50, l51, rfl, rfl, rfl, hM.sel [1, 2, 3] rfl rfl, H⟩
        · rintro φ w115 ⟨A112, c113, l114, h_0, h_1, h_5, hM, H⟩
          obtain ⟨φ0, rfl⟩ : ∃ φ0, φ = upd (upd (upd φ0 0 (.slice A43 l45.length c44)) 1 (.slice A46 l48.length c47)) 5 (.slice A112 l114.length c113) := ⟨φ, by rw [upd_of h_0, upd_of h_1, upd_of h_5]⟩
          clear h_0 h_1 h_5
          refine RW.seq ?_
          refine RW.drawK Try.mixed (fun w116 hw hcl hS => ?_)
          have hM := hM.keep (show Keeps none_ w115 w116 by rw [hw]; exact Keeps.drew _ _)
          clear hw
          have hR6 := hM
          have hKr := Keeps.refl none_ w116
          refine RD.takesK (by kernel_rfl) [0, 1, 2, 3, 4, 5, 6, 7, 8] 0 rfl (by kernel_rfl) hcl hS ?_
          refine RQ.opd 43 rfl rfl rfl (Yld.plain (v := .slice A43 l45.length c44) rfl (fun _ _ => (X_move rfl))) ?_
          refine RQ.opd 44 rfl rfl rfl (Yld.plain (v := .pointer (ea A43 ((0 : Int).toNat * 2))) rfl (fun _ _ => (X_indexAddrE Try.underlying75 Try.inf64 rfl rfl (idx_inr hx97) hA98))) ?_
          refine RQ.opd 45 rfl rfl rfl (Yld.plain (v := .pointer (ea A43 ((0 : Int).toNat * 2 + 1))) rfl (fun _ _ => (X_fieldAddrE Try.underlying64 rfl Try.inf3 rfl hA98 rfl))) ?_
          refine RQ.opd 46 rfl rfl rfl (Yld.K (v := .int .i64 x97.To) rfl (fun _ hk => (X_loadE Try.underlying3 rfl rfl (el_rd Span.ok ((hR6.keep hk).sl 2 rfl).1 hx97 (j := 1) rfl)))) ?_
          refine RQ.opd 47 rfl rfl rfl (Yld.plain (v := .slice A46 l48.length c47) rfl (fun _ _ => (X_move rfl))) ?_
          refine RQ.opd 48 rfl rfl rfl (Yld.plain (v := .pointer (ea A46 ((0 : Int).toNat * 2))) rfl (fun _ _ => (X_indexAddrE Try.underlying75 Try.inf64 rfl rfl (idx_inr hx99) hA100))) ?_
          refine RQ.opd 49 rfl rfl rfl (Yld.plain (v := .pointer (ea A46 ((0 : Int).toNat * 2 + 1))) rfl (fun _ _ => (X_fieldAddrE Try.underlying64 rfl Try.inf3 rfl hA100 rfl))) ?_
          refine RQ.opd 50 rfl rfl rfl (Yld.K (v := .int .i64 x99.To) rfl (fun _ hk => (X_loadE Try.underlying3 rfl rfl (el_rd Span.ok ((hR6.keep hk).sl 1 rfl).1 hx99 (j := 1) rfl)))) ?_
          refine RQ.opd 51 rfl rfl rfl (Yld.plain (v := .bool (decide (x97.To < x99.To))) rfl (fun _ _ => (X_lss rfl rfl))) ?_
          refine RQ.nil ?_
          clear hcl hS
          intro hcl hS
          refine RD.done (by kernel_rfl) hcl hS ?_
          refine RW.cond rfl (fun hc117 => ?_) (fun hc117 => ?_)
          · replace H := brT hc117 H
            refine RW.region ?_
            refine q (v := .slice A43 l45.length c44) rfl (X_move rfl) ?_
            obtain ⟨hk118, H⟩ := chk_out H
            refine q (v := .slice (sA A43 c44 (1 : Int).toNat 2) ((l45.drop (1 : Int).toNat).length) (c44 - (1 : Int).toNat)) rfl (X_dropE (l := l45) Try.underlying75 Try.inf64 rfl rfl hk118) ?_
            refine q (v := .slice (sA A43 c44 (1 : Int).toNat 2) ((l45.drop (1 : Int).toNat).length) (c44 - (1 : Int).toNat)) rfl (X_assign rfl) ?_
            refine RL.nil ?_
            replace hM := hM.dup 2 rfl (SL.drop Span.ok (hM.sl 2 rfl) ((1 : Int).toNat)) (sub_drop (l := l45) _ Span.ok)
            exact ⟨gk1, Nat.lt_succ_self _, (sA A43 c44 (1 : Int).toNat 2), (c44 - (1 : Int).toNat), (l45.drop (1 : Int).toNat), A46, c47, l48, A112, c113, l114, rfl, rfl, rfl, hM.sel [1, 2, 0] rfl rfl, H⟩
          · replace H := brF hc117 H
            refine RW.region ?_
            refine q (v := .slice A46 l48.length c47) rfl (X_move rfl) ?_
            obtain ⟨hk119, H⟩ := chk_out H
            refine q (v := .slice (sA A46 c47 (1 : Int).toNat 2) ((l48.drop (1 : Int).toNat).length) (c47 - (1 : Int).toNat)) rfl (X_dropE (l := l48) Try.underlying75 Try.inf64 rfl rfl hk119) ?_
            refine q (v := .slice (sA A46 c47 (1 : Int).toNat 2) ((l48.drop (1 : Int).toNat).length) (c47 - (1 : Int).toNat)) rfl (X_assign rfl) ?_
            refine RL.nil ?_
            replace hM := hM.dup 1 rfl (SL.drop Span.ok (hM.sl 1 rfl) ((1 : Int).toNat)) (sub_drop (l := l48) _ Span.ok)
            exact ⟨gk1, Nat.lt_succ_self _, A43, c44, l45, (sA A46 c47 (1 : Int).toNat 2), (c47 - (1 : Int).toNat), (l48.drop (1 : Int).toNat), A112, c113, l114, rfl, rfl, rfl, hM.sel [1, 0, 3] rfl rfl, H⟩
      · replace H := brF hc95 H
        refine RW.exit ?_
        refine RW.seq ?_
        refine RW.region ?_
        refine q (v := .slice A49 l51.length c50) rfl (X_move rfl) ?_
        refine q (v := .slice A49 l51.length c50) rfl (X_assign rfl) ?_
        refine RL.nil ?_
        refine RW.ret ?_
        replace H := Option.some.inj H
        subst H
        refine retV1 (.inl rfl) rfl (show RV _ _ _ (.tmp 4) (.slice A49 l51.length c50) from rfl) ?_
        exact ⟨_, rfl, hM.ownR 0 rfl, hM.keeps⟩
set_option maxRecDepth 20000 in
theorem span_Sub_any (w : World) (A0_ : Option Addr) (c0_ : Nat) (p0 : List Span) (A1_ : Option Addr) (c1_ : Nat) (p1 : List Span) (hs0 : SL w A0_ c0_ p0 Span.E) (hs1 : SL w A1_ c1_ p1 Span.E) {y : List Span} (H : span_Sub p0 p1 = some y) :
    Calls Try.prog 59 #[.slice A0_ p0.length c0_, .slice A1_ p1.length c1_] w fun e w' => ∃ v, e = .returned v ∧ OwnR w w' 64 2 Span.E v y ∧ Keeps none_ w w' := by
  unfold span_Sub at H
  refine calls_of_RW Try.func59 rfl (Nat.le_of_ble_eq_true rfl) ?_
  have hM := SH.start w
  replace hM := hM.startSL hs0
  replace hM := hM.startSL hs1
  refine RW.seq ?_
  refine RW.region ?_
  refine q (v := .slice none 0 0) rfl (X_assign rfl) ?_
  refine RL.nil ?_
  refine RW.seq ?_
  refine RW.region ?_
  refine q (v := .slice none 0 0) rfl (X_assign rfl) ?_
  refine RL.nil ?_
  refine RW.seq ?_
  refine RW.seq ?_
  refine RW.region ?_
  refine q (v := .slice A0_ p0.length c0_) rfl (X_move rfl) ?_
  refine q (v := .int .i64 (p0.length : Int)) rfl (X_lenE (l := p0) Try.underlying75 rfl) ?_
  refine q (v := .int .i64 0) rfl (X_move rfl) ?_
  refine RL.nil ?_
  refine RW.block ?_
  replace hM := hM.addNil 64 2 Span.E
  refine RW.loop (fun gk φ wr => ∃ (A86 : Option Addr) (c87 : Nat) (l88 : List Span) (i89 : Int), φ 1 = .slice A1_ p1.length c1_ ∧ φ 5 = .slice A86 l88.length c87 ∧ φ 10 = .slice A0_ p0.length c0_ ∧ φ 11 = .int .i64 (p0.length : Int) ∧ φ 12 = .int .i64 i89 ∧ SH none_ w wr [.sl A0_ c0_ p0 Span.E, .own 64 2 A86 c87 l88 Span.E, .sl A1_ c1_ p1 Span.E] ∧ span_Sub_l1 p0 p1 gk l88 i89 = some y) N0 ?_ ?_
  · exact ⟨none, 0, ([] : List Span), 0, rfl, rfl, rfl, rfl, rfl, hM.sel [2, 0, 1] rfl rfl, H⟩
  · rintro gk1 φ w175 ⟨A86, c87, l88, i89, h_1, h_5, h_10, h_11, h_12, hM, H⟩
    obtain ⟨φ0, rfl⟩ : ∃ φ0, φ = upd (upd (upd (upd (upd φ0 1 (.slice A1_ p1.length c1_)) 5 (.slice A86 l88.length c87)) 10 (.slice A0_ p0.length c0_)) 11 (.int .i64 (p0.length : Int))) 12 (.int .i64 i89) := ⟨φ, by rw [upd_of h_1, upd_of h_5, upd_of h_10, upd_of h_11, upd_of h_12]⟩
    clear h_1 h_5 h_10 h_11 h_12
    cases gk1 with
    | zero => exact (no_out H).elim
    | succ gk1 =>
      replace H : span_Sub_l1_b p0 p1 (span_Sub_l1 p0 p1 gk1) l88 i89 = some y := H
      unfold span_Sub_l1_b at H
      refine RW.seq ?_
      refine RW.region ?_
      refine q (v := .bool (decide (i89 < (p0.length : Int)))) rfl (X_lss rfl rfl) ?_
      refine RL.nil ?_
      refine RW.seq ?_
      refine RW.cond rfl (fun hc176 => ?_) (fun hc176 => ?_)
      · replace H := brT hc176 H
        refine RW.skip ?_
        refine RW.seq ?_
        refine RW.block ?_
        refine RW.seq ?_
        refine RW.region ?_
        obtain ⟨x177, hx177, H⟩ := bnd_out H
        have hA178 := el_isA Span.ok (hM.sl 0 rfl).1 hx177
        refine q (v := .pointer (ea A0_ (i89.toNat * 2))) rfl (X_indexAddrE Try.underlying75 Try.inf64 rfl rfl (idx_inr hx177) hA178) ?_
        refine q (v := .agg #[.int .i64 x177.From, .int .i64 x177.To]) rfl (X_loadAggE [.int .i64 x177.From, .int .i64 x177.To] Try.underlying64 rfl Try.inf64 rfl hA178 (el_rds Span.ok (hM.sl 0 rfl).1 hx177 (k := 0) rfl)) ?_
        refine RL.ex rfl (S_alloc hM [.int .i64 0, .int .i64 0] Try.inf64 rfl) ⟨rfl, rfl⟩ ?_
        rintro _ w179 ⟨B180, rfl, hM, hK⟩
        refine RL.exs rfl (S_store hM 0 [.int .i64 x177.From, .int .i64 x177.To] [.int .i64 x177.From, .int .i64 x177.To] rfl Try.inf64 rfl rfl rfl rfl rfl rfl rfl) rfl ?_
        rintro w181 ⟨hM, hK⟩
        refine RL.nil ?_
        refine RW.seq ?_
        refine RW.seq ?_
        refine RW.region ?_
        refine q (v := .slice A1_ p1.length c1_) rfl (X_move rfl) ?_
        refine q (v := .int .i64 (p1.length : Int)) rfl (X_lenE (l := p1) Try.underlying75 rfl) ?_
        refine q (v := .int .i64 0) rfl (X_move rfl) ?_
        refine RL.nil ?_
        refine RW.block ?_
        refine RW.loop (fun gk φ wr => ∃ (A204 : Option Addr) (c205 : Nat) (l206 : List Span) (i207 : Int) (i208 : Int), φ 1 = .slice A1_ p1.length c1_ ∧ φ 5 = .slice A204 l206.length c205 ∧ φ 7 = .pointer (some ⟨B180, 0, none⟩) ∧ φ 10 = .slice A0_ p0.length c0_ ∧ φ 11 = .int .i64 (p0.length : Int) ∧ φ 12 = .int .i64 i89 ∧ φ 16 = .slice A1_ p1.length c1_ ∧ φ 17 = .int .i64 (p1.length : Int) ∧ φ 18 = .int .i64 i208 ∧ SH none_ w wr [.sl A0_ c0_ p0 Span.E, .blk B180 [.int .i64 i207, .int .i64 x177.To] 64, .own 64 2 A204 c205 l206 Span.E, .sl A1_ c1_ p1 Span.E] ∧ span_Sub_l2 p1 i89 (span_Sub_l1 p0 p1 gk1) x177 gk l206 i207 i208 = some y) N0 ?_ ?_
        · exact ⟨A86, c87, l88, x177.From, 0, rfl, rfl, rfl, rfl, rfl, rfl, rfl, rfl, rfl, hM.sel [1, 0, 2, 3] rfl rfl, H⟩
        · rintro gk2 φ w231 ⟨A204, c205, l206, i207, i208, h_1, h_5, h_7, h_10, h_11, h_12, h_16, h_17, h_18, hM, H⟩
          obtain ⟨φ0, rfl⟩ : ∃ φ0, φ = upd (upd (upd (upd (upd (upd (upd (upd (upd φ0 1 (.slice A1_ p1.length c1_)) 5 (.slice A204 l206.length c205)) 7 (.pointer (some ⟨B180, 0, none⟩))) 10 (.slice A0_ p0.length c0_)) 11 (.int .i64 (p0.length : Int))) 12 (.int .i64 i89)) 16 (.slice A1_ p1.length c1_)) 17 (.int .i64 (p1.length : Int))) 18 (.int .i64 i208) := ⟨φ, by rw [upd_of h_1, upd_of h_5, upd_of h_7, upd_of h_10, upd_of h_11, upd_of h_12, upd_of h_16, upd_of h_17, upd_of h_18]⟩
          clear h_1 h_5 h_7 h_10 h_11 h_12 h_16 h_17 h_18
          cases gk2 with
          | zero => exact (no_out H).elim
          | succ gk2 =>
            replace H : span_Sub_l2_b p1 i89 (span_Sub_l1 p0 p1 gk1) x177 (span_Sub_l2 p1 i89 (span_Sub_l1 p0 p1 gk1) x177 gk2) l206 i207 i208 = some y := H
            unfold span_Sub_l2_b at H
            refine RW.seq ?_
            refine RW.region ?_
            refine q (v := .bool (decide (i208 < (p1.length : Int)))) rfl (X_lss rfl rfl) ?_
            refine RL.nil ?_
            refine RW.seq ?_
            refine RW.cond rfl (fun hc232 => ?_) (fun hc232 => ?_)
            · replace H := brT hc232 H
              refine RW.skip ?_
              refine RW.seq ?_
              refine RW.block ?_
              refine RW.seq ?_
              refine RW.region ?_
              obtain ⟨x233, hx233, H⟩ := bnd_out H
              have hA234 := el_isA Span.ok (hM.sl 3 rfl).1 hx233
              refine q (v := .pointer (ea A1_ (i208.toNat * 2))) rfl (X_indexAddrE Try.underlying75 Try.inf64 rfl rfl (idx_inr hx233) hA234) ?_
              refine q (v := .agg #[.int .i64 x233.From, .int .i64 x233.To]) rfl (X_loadAggE [.int .i64 x233.From, .int .i64 x233.To] Try.underlying64 rfl Try.inf64 rfl hA234 (el_rds Span.ok (hM.sl 3 rfl).1 hx233 (k := 0) rfl)) ?_
              refine RL.ex rfl (S_alloc hM [.int .i64 0, .int .i64 0] Try.inf64 rfl) ⟨rfl, rfl⟩ ?_
              rintro _ w235 ⟨B236, rfl, hM, hK⟩
              refine RL.exs rfl (S_store hM 0 [.int .i64 x233.From, .int .i64 x233.To] [.int .i64 x233.From, .int .i64 x233.To] rfl Try.inf64 rfl rfl rfl rfl rfl rfl rfl) rfl ?_
              rintro w237 ⟨hM, hK⟩
              refine RL.nil ?_
              refine RW.seq ?_
              refine RW.seq ?_
              refine RW.region ?_
              refine q (v := .pointer (some ⟨B236, 1, none⟩)) rfl (X_fieldAddr Try.underlying64 rfl Try.inf3 rfl rfl) ?_
              refine q (v := .int .i64 x233.To) rfl (X_load Try.underlying3 rfl rfl (at_cell (hM.blk 0 rfl) rfl)) ?_
              refine q (v := .pointer (some ⟨B180, 0, none⟩)) rfl (X_fieldAddr Try.underlying64 rfl Try.inf3 rfl rfl) ?_
              refine q (v := .int .i64 i207) rfl (X_load Try.underlying3 rfl rfl (at_cell (hM.blk 2 rfl) rfl)) ?_
              refine q (v := .bool (decide (x233.To ≤ i207))) rfl (X_leq rfl rfl) ?_
              refine q (v := .bool (decide (x233.To ≤ i207))) rfl (X_move rfl) ?_
              refine RL.gopd (v := .pointer (some ⟨B236, 0, none⟩)) 28 rfl rfl rfl rfl (fun hg => (X_fieldAddr Try.underlying64 rfl Try.inf3 rfl rfl)) rfl rfl ?_
              refine RL.gopd (v := .int .i64 x233.From) 29 rfl rfl rfl rfl (fun hg => (X_load Try.underlying3 rfl (gb_on hg) (at_cell (hM.blk 0 rfl) rfl))) rfl rfl ?_
              refine RL.gopd (v := .pointer (some ⟨B180, 1, none⟩)) 30 rfl rfl rfl rfl (fun hg => (X_fieldAddr Try.underlying64 rfl Try.inf3 rfl rfl)) rfl rfl ?_
              refine RL.gopd (v := .int .i64 x177.To) 31 rfl rfl rfl rfl (fun hg => (X_load Try.underlying3 rfl (gb_on hg) (at_cell (hM.blk 2 rfl) rfl))) rfl rfl ?_
              refine RL.gopd (v := .bool (decide (x177.To ≤ x233.From))) 32 rfl rfl rfl rfl (fun hg => (X_geq (gb_on hg) (gb_on hg))) rfl rfl ?_
              refine q (v := .bool (bif decide (x233.To ≤ i207) then true else decide (x177.To ≤ x233.From))) rfl (X_pickB rfl (fun _ => rfl) (fun h => gbF h)) ?_
              refine RL.nil ?_
              refine RW.cond rfl (fun hc238 => ?_) (fun hc238 => ?_)
              · replace H := brT hc238 H
                refine RW.exit ?_
                refine RW.region ?_
                refine q (v := .int .i64 (w64 (i208 + 1))) rfl (X_addw rfl rfl) ?_
                refine q (v := .int .i64 (w64 (i208 + 1))) rfl (X_move rfl) ?_
                refine RL.nil ?_
                exact ⟨gk2, Nat.lt_succ_self _, A204, c205, l206, i207, w64 (i208 + 1), rfl, rfl, rfl, rfl, rfl, rfl, rfl, rfl, rfl, hM.sel [1, 2, 3, 4] rfl rfl, H⟩
              · replace H := brF hc238 H
                refine RW.skip ?_
                refine RW.seq ?_
                refine RW.seq ?_
                refine RW.region ?_
                refine q (v := .pointer (some ⟨B236, 0, none⟩)) rfl (X_fieldAddr Try.underlying64 rfl Try.inf3 rfl rfl) ?_
                refine q (v := .int .i64 x233.From) rfl (X_load Try.underlying3 rfl rfl (at_cell (hM.blk 0 rfl) rfl)) ?_
                refine q (v := .pointer (some ⟨B180, 0, none⟩)) rfl (X_fieldAddr Try.underlying64 rfl Try.inf3 rfl rfl) ?_
                refine q (v := .int .i64 i207) rfl (X_load Try.underlying3 rfl rfl (at_cell (hM.blk 2 rfl) rfl)) ?_
                refine q (v := .bool (decide (i207 < x233.From))) rfl (X_gtr rfl rfl) ?_
                refine RL.nil ?_
                refine RW.cond rfl (fun hc239 => ?_) (fun hc239 => ?_)
                · replace H := brT hc239 H
                  refine RW.region ?_
                  refine q (v := .slice A204 l206.length c205) rfl (X_move rfl) ?_
                  refine q (v := .pointer (some ⟨B180, 0, none⟩)) rfl (X_fieldAddr Try.underlying64 rfl Try.inf3 rfl rfl) ?_
                  refine q (v := .int .i64 i207) rfl (X_load Try.underlying3 rfl rfl (at_cell (hM.blk 2 rfl) rfl)) ?_
                  refine q (v := .pointer (some ⟨B236, 0, none⟩)) rfl (X_fieldAddr Try.underlying64 rfl Try.inf3 rfl rfl) ?_
                  refine q (v := .int .i64 x233.From) rfl (X_load Try.underlying3 rfl rfl (at_cell (hM.blk 0 rfl) rfl)) ?_
                  refine q (v := .agg #[.int .i64 i207, .int .i64 x233.From]) rfl (X_build (cells := #[.int .i64 i207, .int .i64 x233.From]) (by simp only [List.map]; kernel_rfl)) ?_
                  refine RL.ex rfl (S_lit1 hM Span.E Span.ok (Span.mk i207 x233.From) Try.underlying75 Try.inf64 rfl rfl rfl rfl) ⟨rfl, rfl⟩ ?_
                  rintro _ w240 ⟨A241, c242, rfl, hM, hK⟩
                  obtain ⟨hk244, H⟩ := chk_out H
                  refine RL.ex rfl (S_append (l := l206) (ys := [(Span.mk i207 x233.From)]) hM 4 rfl Span.ok Try.underlying75 Try.inf64 rfl rfl rfl rfl (hM.ownsl 0 rfl) hk244) ⟨rfl, rfl⟩ ?_
                  rintro _ w243 ⟨A245, c246, rfl, hM, hK⟩
                  refine q (v := .slice A245 ((l206 ++ ([(Span.mk i207 x233.From)])).length) c246) rfl (X_assign rfl) ?_
                  refine RL.nil ?_
                  refine RW.region ?_
                  refine q (v := .pointer (some ⟨B236, 1, none⟩)) rfl (X_fieldAddr Try.underlying64 rfl Try.inf3 rfl rfl) ?_
                  refine q (v := .int .i64 x233.To) rfl (X_load Try.underlying3 rfl rfl (at_cell (hM.blk 1 rfl) rfl)) ?_
                  refine q (v := .pointer (some ⟨B180, 0, none⟩)) rfl (X_fieldAddr Try.underlying64 rfl Try.inf3 rfl rfl) ?_
                  refine RL.exs rfl (S_store hM 3 [.int .i64 x233.To] [.int .i64 x233.To, .int .i64 x177.To] rfl Try.inf3 rfl rfl rfl rfl rfl rfl rfl) rfl ?_
                  rintro w247 ⟨hM, hK⟩
                  refine RL.nil ?_
                  refine RW.region ?_
                  refine q (v := .int .i64 (w64 (i208 + 1))) rfl (X_addw rfl rfl) ?_
                  refine q (v := .int .i64 (w64 (i208 + 1))) rfl (X_move rfl) ?_
                  refine RL.nil ?_
                  exact ⟨gk2, Nat.lt_succ_self _, A245, c246, (l206 ++ ([(Span.mk i207 x233.From)])), x233.To, w64 (i208 + 1), rfl, rfl, rfl, rfl, rfl, rfl, rfl, rfl, rfl, hM.sel [2, 3, 4, 5] rfl rfl, H⟩
                · replace H := brF hc239 H
                  refine RW.skip ?_
                  refine RW.region ?_
                  refine q (v := .pointer (some ⟨B236, 1, none⟩)) rfl (X_fieldAddr Try.underlying64 rfl Try.inf3 rfl rfl) ?_
                  refine q (v := .int .i64 x233.To) rfl (X_load Try.underlying3 rfl rfl (at_cell (hM.blk 0 rfl) rfl)) ?_
                  refine q (v := .pointer (some ⟨B180, 0, none⟩)) rfl (X_fieldAddr Try.underlying64 rfl Try.inf3 rfl rfl) ?_
                  refine RL.exs rfl (S_store hM 2 [.int .i64 x233.To] [.int .i64 x233.To, .int .i64 x177.To] rfl Try.inf3 rfl rfl rfl rfl rfl rfl rfl) rfl ?_
                  rintro w248 ⟨hM, hK⟩
                  refine RL.nil ?_
                  refine RW.region ?_
                  refine q (v := .int .i64 (w64 (i208 + 1))) rfl (X_addw rfl rfl) ?_
                  refine q (v := .int .i64 (w64 (i208 + 1))) rfl (X_move rfl) ?_
                  refine RL.nil ?_
                  exact ⟨gk2, Nat.lt_succ_self _, A204, c205, l206, x233.To, w64 (i208 + 1), rfl, rfl, rfl, rfl, rfl, rfl, rfl, rfl, rfl, hM.sel [1, 2, 3, 4] rfl rfl, H⟩
            · replace H := brF hc232 H
              refine RW.exit ?_
              refine RW.seq ?_
              refine RW.region ?_
              refine q (v := .pointer (some ⟨B180, 0, none⟩)) rfl (X_fieldAddr Try.underlying64 rfl Try.inf3 rfl rfl) ?_
              refine q (v := .int .i64 i207) rfl (X_load Try.underlying3 rfl rfl (at_cell (hM.blk 1 rfl) rfl)) ?_
              refine q (v := .pointer (some ⟨B180, 1, none⟩)) rfl (X_fieldAddr Try.underlying64 rfl Try.inf3 rfl rfl) ?_
              refine q (v := .int .i64 x177.To) rfl (X_load Try.underlying3 rfl rfl (at_cell (hM.blk 1 rfl) rfl)) ?_
              refine q (v := .bool (decide (i207 < x177.To))) rfl (X_lss rfl rfl) ?_
              refine RL.nil ?_
              refine RW.cond rfl (fun hc249 => ?_) (fun hc249 => ?_)
              · replace H := brT hc249 H
                refine RW.region ?_
                refine q (v := .slice A204 l206.length c205) rfl (X_move rfl) ?_
                refine q (v := .agg #[.int .i64 i207, .int .i64 x177.To]) rfl (X_loadAgg [.int .i64 i207, .int .i64 x177.To] Try.underlying64 rfl Try.inf64 rfl (at_cells (hM.blk 1 rfl) rfl)) ?_
                refine RL.ex rfl (S_lit1 hM Span.E Span.ok (Span.mk i207 x177.To) Try.underlying75 Try.inf64 rfl rfl rfl rfl) ⟨rfl, rfl⟩ ?_
                rintro _ w250 ⟨A251, c252, rfl, hM, hK⟩
                obtain ⟨hk254, H⟩ := chk_out H
                refine RL.ex rfl (S_append (l := l206) (ys := [(Span.mk i207 x177.To)]) hM 3 rfl Span.ok Try.underlying75 Try.inf64 rfl rfl rfl rfl (hM.ownsl 0 rfl) hk254) ⟨rfl, rfl⟩ ?_
                rintro _ w253 ⟨A255, c256, rfl, hM, hK⟩
                refine q (v := .slice A255 ((l206 ++ ([(Span.mk i207 x177.To)])).length) c256) rfl (X_assign rfl) ?_
                refine RL.nil ?_
                refine RW.region ?_
                refine q (v := .int .i64 (w64 (i89 + 1))) rfl (X_addw rfl rfl) ?_
                refine q (v := .int .i64 (w64 (i89 + 1))) rfl (X_move rfl) ?_
                refine RL.nil ?_
                exact ⟨gk1, Nat.lt_succ_self _, A255, c256, (l206 ++ ([(Span.mk i207 x177.To)])), w64 (i89 + 1), rfl, rfl, rfl, rfl, rfl, hM.sel [1, 3, 4] rfl rfl, H⟩
              · replace H := brF hc249 H
                refine RW.skip ?_
                refine RW.region ?_
                refine q (v := .int .i64 (w64 (i89 + 1))) rfl (X_addw rfl rfl) ?_
                refine q (v := .int .i64 (w64 (i89 + 1))) rfl (X_move rfl) ?_
                refine RL.nil ?_
                exact ⟨gk1, Nat.lt_succ_self _, A204, c205, l206, w64 (i89 + 1), rfl, rfl, rfl, rfl, rfl, hM.sel [0, 2, 3] rfl rfl, H⟩
      · replace H := brF hc176 H
        refine RW.exit ?_
        refine RW.seq ?_
        refine RW.region ?_
        refine q (v := .slice A86 l88.length c87) rfl (X_move rfl) ?_
        refine q (v := .slice A86 l88.length c87) rfl (X_assign rfl) ?_
        refine RL.nil ?_
        refine RW.ret ?_
        replace H := Option.some.inj H
        subst H
        refine retV1 (.inl rfl) rfl (show RV _ _ _ (.tmp 4) (.slice A86 l88.length c87) from rfl) ?_
        exact ⟨_, rfl, hM.ownR 1 rfl, hM.keeps⟩
set_option maxRecDepth 20000 in
theorem ref09_Has_any (w : World) (A0_ : Option Addr) (c0_ : Nat) (p0 : List Span) (p1 : Int) (hs0 : SL w A0_ c0_ p0 Span.E) {y : Bool} (H : ref09_Has p0 p1 = some y) :
    Calls Try.prog 26 #[.slice A0_ p0.length c0_, .int .i64 p1] w fun e w' => ∃ v, e = .returned v ∧ v = .bool y ∧ Keeps none_ w w' := by
  unfold ref09_Has at H
  refine calls_of_RW Try.func26 rfl (Nat.le_of_ble_eq_true rfl) ?_
  have hM := SH.start w
  replace hM := hM.startSL hs0
  refine RW.seq ?_
  refine RW.region ?_
  refine q (v := .bool false) rfl (X_assign rfl) ?_
  refine RL.nil ?_
  refine RW.seq ?_
  refine RW.seq ?_
  refine RW.region ?_
  refine q (v := .int .i64 0) rfl (X_assign rfl) ?_
  refine RL.nil ?_
  refine RW.block ?_
  refine RW.loop (fun gk φ wr => ∃ (i6 : Int), φ 0 = .slice A0_ p0.length c0_ ∧ φ 1 = .int .i64 p1 ∧ φ 5 = .int .i64 i6 ∧ SH none_ w wr [.sl A0_ c0_ p0 Span.E] ∧ ref09_Has_l1 p0 p1 gk i6 = some y) N0 ?_ ?_
  · exact ⟨0, rfl, rfl, rfl, hM.sel [0] rfl rfl, H⟩
  · rintro gk1 φ w12 ⟨i6, h_0, h_1, h_5, hM, H⟩
    obtain ⟨φ0, rfl⟩ : ∃ φ0, φ = upd (upd (upd φ0 0 (.slice A0_ p0.length c0_)) 1 (.int .i64 p1)) 5 (.int .i64 i6) := ⟨φ, by rw [upd_of h_0, upd_of h_1, upd_of h_5]⟩
    clear h_0 h_1 h_5
    cases gk1 with
    | zero => exact (no_out H).elim
    | succ gk1 =>
      replace H : ref09_Has_l1_b p0 p1 (ref09_Has_l1 p0 p1 gk1) i6 = some y := H
      unfold ref09_Has_l1_b at H
      refine RW.seq ?_
      refine RW.seq ?_
      refine RW.region ?_
      refine q (v := .int .i64 i6) rfl (X_move rfl) ?_
      refine q (v := .slice A0_ p0.length c0_) rfl (X_move rfl) ?_
      refine q (v := .int .i64 (p0.length : Int)) rfl (X_lenE (l := p0) Try.underlying75 rfl) ?_
      refine q (v := .bool (decide (i6 < (p0.length : Int)))) rfl (X_lss rfl rfl) ?_
      refine RL.nil ?_
      refine RW.cond rfl (fun hc13 => ?_) (fun hc13 => ?_)
      · replace H := brT hc13 H
        refine RW.skip ?_
        refine RW.seq ?_
        refine RW.block ?_
        refine RW.seq ?_
        refine RW.region ?_
        refine q (v := .int .i64 p1) rfl (X_move rfl) ?_
        refine q (v := .slice A0_ p0.length c0_) rfl (X_move rfl) ?_
        refine q (v := .int .i64 i6) rfl (X_move rfl) ?_
        obtain ⟨x14, hx14, H⟩ := bnd_out H
        have hA15 := el_isA Span.ok (hM.sl 0 rfl).1 hx14
        refine q (v := .pointer (ea A0_ (i6.toNat * 2))) rfl (X_indexAddrE Try.underlying75 Try.inf64 rfl rfl (idx_inr hx14) hA15) ?_
        refine q (v := .pointer (ea A0_ (i6.toNat * 2))) rfl (X_fieldAddrE Try.underlying64 rfl Try.inf3 rfl hA15 rfl) ?_
        refine q (v := .int .i64 x14.From) rfl (X_loadE Try.underlying3 rfl rfl (el_rd Span.ok (hM.sl 0 rfl).1 hx14 (j := 0) rfl)) ?_
        refine q (v := .bool (decide (x14.From ≤ p1))) rfl (X_geq rfl rfl) ?_
        refine q (v := .bool (decide (x14.From ≤ p1))) rfl (X_move rfl) ?_
        refine RL.gopd (v := .int .i64 p1) 20 rfl rfl rfl rfl (fun hg => (X_move rfl)) rfl rfl ?_
        refine RL.gopd (v := .slice A0_ p0.length c0_) 21 rfl rfl rfl rfl (fun hg => (X_move rfl)) rfl rfl ?_
        refine RL.gopd (v := .int .i64 i6) 22 rfl rfl rfl rfl (fun hg => (X_move rfl)) rfl rfl ?_
        refine RL.gopd (v := .pointer (ea A0_ (i6.toNat * 2))) 23 rfl rfl rfl rfl (fun hg => (X_indexAddrE Try.underlying75 Try.inf64 (gb_on hg) (gb_on hg) (idx_inr hx14) hA15)) rfl rfl ?_
        refine RL.gopd (v := .pointer (ea A0_ (i6.toNat * 2 + 1))) 24 rfl rfl rfl rfl (fun hg => (X_fieldAddrE Try.underlying64 rfl Try.inf3 (gb_on hg) hA15 rfl)) rfl rfl ?_
        refine RL.gopd (v := .int .i64 x14.To) 25 rfl rfl rfl rfl (fun hg => (X_loadE Try.underlying3 rfl (gb_on hg) (el_rd Span.ok (hM.sl 0 rfl).1 hx14 (j := 1) rfl))) rfl rfl ?_
        refine RL.gopd (v := .bool (decide (p1 < x14.To))) 26 rfl rfl rfl rfl (fun hg => (X_lss (gb_on hg) (gb_on hg))) rfl rfl ?_
        refine q (v := .bool (bif decide (x14.From ≤ p1) then decide (p1 < x14.To) else false)) rfl (X_pickB rfl (fun h => gbT h) (fun _ => rfl)) ?_
        refine RL.nil ?_
        refine RW.cond rfl (fun hc16 => ?_) (fun hc16 => ?_)
        · replace H := brT hc16 H
          refine RW.seq ?_
          refine RW.region ?_
          refine q (v := .bool true) rfl (X_assign rfl) ?_
          refine RL.nil ?_
          refine RW.ret ?_
          replace H := Option.some.inj H
          subst H
          refine retV1 (.inl rfl) rfl (show RV _ _ _ (.tmp 4) (.bool true) from rfl) ?_
          exact ⟨_, rfl, rfl, hM.keeps⟩
        · replace H := brF hc16 H
          refine RW.skip ?_
          refine RW.region ?_
          refine q (v := .int .i64 i6) rfl (X_move rfl) ?_
          refine q (v := .int .i64 (w64 (i6 + 1))) rfl (X_addw rfl rfl) ?_
          refine q (v := .int .i64 (w64 (i6 + 1))) rfl (X_assign rfl) ?_
          refine RL.nil ?_
          exact ⟨gk1, Nat.lt_succ_self _, w64 (i6 + 1), rfl, rfl, rfl, hM.sel [0] rfl rfl, H⟩
      · replace H := brF hc13 H
        refine RW.exit ?_
        refine RW.seq ?_
        refine RW.region ?_
        refine q (v := .bool false) rfl (X_assign rfl) ?_
        refine RL.nil ?_
        refine RW.ret ?_
        replace H := Option.some.inj H
        subst H
        refine retV1 (.inl rfl) rfl (show RV _ _ _ (.tmp 4) (.bool false) from rfl) ?_
        exact ⟨_, rfl, rfl, hM.keeps⟩
set_option maxRecDepth 20000 in
theorem rota_Spans_any (w : World) (p0 : Rota_Rota) (B0_ : Nat) (r0_0 : Option Nat) (G0_0 : Nat → Prop) (p1 : Int) (hA0 : At w B0_ (.cells [.map r0_0].toArray 70)) (hm0_0 : (Ck.mpr r0_0 G0_0 (Value.int .i64) 64 2 Span.E p0.out none).P w) {y : List Span} (H : rota_Spans p0 p1 = some y) :
    Calls Try.prog 23 #[.pointer (some ⟨B0_, 0, none⟩), .int .i64 p1] w fun e w' => ∃ v, e = .returned v ∧ OwnR w w' 64 2 Span.E v y ∧ Keeps none_ w w' := by
  unfold rota_Spans at H
  refine calls_of_RW Try.func23 rfl (Nat.le_of_ble_eq_true rfl) ?_
  have hM := SH.start w
  replace hM := hM.startRo (c := .blk B0_ [.map r0_0] 70) hA0
  replace hM := hM.startRo hm0_0
  refine RW.seq ?_
  refine RW.region ?_
  refine q (v := .slice none 0 0) rfl (X_assign rfl) ?_
  refine RL.nil ?_
  refine RW.seq ?_
  refine RW.region ?_
  refine q (v := .pointer (some ⟨B0_, 0, none⟩)) rfl (X_move rfl) ?_
  refine q (v := .pointer (some ⟨B0_, 0, none⟩)) rfl (X_nilP rfl) ?_
  refine q (v := .pointer (some ⟨B0_, 0, none⟩)) rfl (X_fieldAddr Try.underlying70 rfl Try.inf68 rfl rfl) ?_
  refine q (v := .map r0_0) rfl (X_load Try.underlying68 rfl rfl (at_cell (hM.ro 1 rfl) rfl)) ?_
  refine q (v := .int .i64 p1) rfl (X_move rfl) ?_
  obtain ⟨A1, c2, hT3⟩ := (hM.ro 0 rfl).see p1
  replace hM := hM.see 0 rfl hT3
  refine q (v := .slice A1 (((mget p0.out p1).getD []).length) c2) rfl (X_lookS (KeyT.int Try.underlying3) Try.underlying68 rfl rfl hT3 Try.inf75) ?_
  replace hM := hM.addNil 64 2 Span.E
  obtain ⟨hk5, H⟩ := chk_out H
  refine RL.ex rfl (S_append (l := ([] : List Span)) (ys := ((mget p0.out p1).getD [])) hM 0 rfl Span.ok Try.underlying75 Try.inf64 rfl rfl rfl rfl (hM.sl 1 rfl) hk5) ⟨rfl, rfl⟩ ?_
  rintro _ w4 ⟨A6, c7, rfl, hM, hK⟩
  refine q (v := .slice A6 ((([] : List Span) ++ ((mget p0.out p1).getD [])).length) c7) rfl (X_assign rfl) ?_
  refine RL.nil ?_
  refine RW.ret ?_
  replace H := Option.some.inj H
  subst H
  refine retV1 (.inl rfl) rfl (show RV _ _ _ (.tmp 4) (.slice A6 ((([] : List Span) ++ ((mget p0.out p1).getD [])).length) c7) from rfl) ?_
  exact ⟨_, rfl, hM.ownR 0 rfl, hM.keeps⟩
set_option maxRecDepth 20000 in
theorem rota_Back_any (w : World) (p0 : Rota_Rota) (B0_ : Nat) (r0_0 : Option Nat) (G0_0 : Nat → Prop) (p1 : Int) (p2 : Int) (hA0 : At w B0_ (.cells [.map r0_0].toArray 70)) (hm0_0 : (Ck.mpr r0_0 G0_0 (Value.int .i64) 64 2 Span.E p0.out none).P w) {y : Int} (H : rota_Back p0 p1 p2 = some y) :
    Calls Try.prog 28 #[.pointer (some ⟨B0_, 0, none⟩), .int .i64 p1, .int .i64 p2] w fun e w' => ∃ v, e = .returned v ∧ v = .int .i64 y ∧ Keeps none_ w w' := by
  unfold rota_Back at H
  refine calls_of_RW Try.func28 rfl (Nat.le_of_ble_eq_true rfl) ?_
  have hM := SH.start w
  replace hM := hM.startRo (c := .blk B0_ [.map r0_0] 70) hA0
  replace hM := hM.startRo hm0_0
  refine RW.seq ?_
  refine RW.region ?_
  refine q (v := .int .i64 0) rfl (X_assign rfl) ?_
  refine RL.nil ?_
  refine RW.seq ?_
  refine RW.seq ?_
  refine RW.region ?_
  refine q (v := .pointer (some ⟨B0_, 0, none⟩)) rfl (X_move rfl) ?_
  refine q (v := .pointer (some ⟨B0_, 0, none⟩)) rfl (X_nilP rfl) ?_
  refine q (v := .pointer (some ⟨B0_, 0, none⟩)) rfl (X_fieldAddr Try.underlying70 rfl Try.inf68 rfl rfl) ?_
  refine q (v := .map r0_0) rfl (X_load Try.underlying68 rfl rfl (at_cell (hM.ro 1 rfl) rfl)) ?_
  refine q (v := .int .i64 p1) rfl (X_move rfl) ?_
  obtain ⟨A1, c2, hT3⟩ := (hM.ro 0 rfl).see p1
  replace hM := hM.see 0 rfl hT3
  refine q (v := .slice A1 (((mget p0.out p1).getD []).length) c2) rfl (X_lookS (KeyT.int Try.underlying3) Try.underlying68 rfl rfl hT3 Try.inf75) ?_
  refine q (v := .int .i64 (((mget p0.out p1).getD []).length : Int)) rfl (X_lenE (l := ((mget p0.out p1).getD [])) Try.underlying75 rfl) ?_
  refine q (v := .int .i64 0) rfl (X_move rfl) ?_
  refine RL.nil ?_
  refine RW.block ?_
  refine RW.loop (fun gk φ wr => ∃ (i12 : Int), φ 2 = .int .i64 p2 ∧ φ 14 = .slice A1 (((mget p0.out p1).getD []).length) c2 ∧ φ 15 = .int .i64 (((mget p0.out p1).getD []).length : Int) ∧ φ 16 = .int .i64 i12 ∧ SH none_ w wr [.sl A1 c2 ((mget p0.out p1).getD []) Span.E] ∧ rota_Back_l1 p0 p1 p2 gk i12 = some y) N0 ?_ ?_
  · exact ⟨0, rfl, rfl, rfl, rfl, hM.sel [0] rfl rfl, H⟩
  · rintro gk1 φ w21 ⟨i12, h_2, h_14, h_15, h_16, hM, H⟩
    obtain ⟨φ0, rfl⟩ : ∃ φ0, φ = upd (upd (upd (upd φ0 2 (.int .i64 p2)) 14 (.slice A1 (((mget p0.out p1).getD []).length) c2)) 15 (.int .i64 (((mget p0.out p1).getD []).length : Int))) 16 (.int .i64 i12) := ⟨φ, by rw [upd_of h_2, upd_of h_14, upd_of h_15, upd_of h_16]⟩
    clear h_2 h_14 h_15 h_16
    cases gk1 with
    | zero => exact (no_out H).elim
    | succ gk1 =>
      replace H : rota_Back_l1_b p0 p1 p2 (rota_Back_l1 p0 p1 p2 gk1) i12 = some y := H
      unfold rota_Back_l1_b at H
      refine RW.seq ?_
      refine RW.region ?_
      refine q (v := .bool (decide (i12 < (((mget p0.out p1).getD []).length : Int)))) rfl (X_lss rfl rfl) ?_
      refine RL.nil ?_
      refine RW.seq ?_
      refine RW.cond rfl (fun hc22 => ?_) (fun hc22 => ?_)
      · replace H := brT hc22 H
        refine RW.skip ?_
        refine RW.seq ?_
        refine RW.block ?_
        refine RW.seq ?_
        refine RW.region ?_
        obtain ⟨x23, hx23, H⟩ := bnd_out H
        have hA24 := el_isA Span.ok (hM.sl 0 rfl).1 hx23
        refine q (v := .pointer (ea A1 (i12.toNat * 2))) rfl (X_indexAddrE Try.underlying75 Try.inf64 rfl rfl (idx_inr hx23) hA24) ?_
        refine q (v := .agg #[.int .i64 x23.From, .int .i64 x23.To]) rfl (X_loadAggE [.int .i64 x23.From, .int .i64 x23.To] Try.underlying64 rfl Try.inf64 rfl hA24 (el_rds Span.ok (hM.sl 0 rfl).1 hx23 (k := 0) rfl)) ?_
        refine RL.ex rfl (S_alloc hM [.int .i64 0, .int .i64 0] Try.inf64 rfl) ⟨rfl, rfl⟩ ?_
        rintro _ w25 ⟨B26, rfl, hM, hK⟩
        refine RL.exs rfl (S_store hM 0 [.int .i64 x23.From, .int .i64 x23.To] [.int .i64 x23.From, .int .i64 x23.To] rfl Try.inf64 rfl rfl rfl rfl rfl rfl rfl) rfl ?_
        rintro w27 ⟨hM, hK⟩
        refine RL.nil ?_
        refine RW.seq ?_
        refine RW.region ?_
        refine q (v := .pointer (some ⟨B26, 0, none⟩)) rfl (X_fieldAddr Try.underlying64 rfl Try.inf3 rfl rfl) ?_
        refine q (v := .int .i64 x23.From) rfl (X_load Try.underlying3 rfl rfl (at_cell (hM.blk 0 rfl) rfl)) ?_
        refine q (v := .int .i64 p2) rfl (X_move rfl) ?_
        refine q (v := .bool (decide (x23.From ≤ p2))) rfl (X_leq rfl rfl) ?_
        refine q (v := .bool (decide (x23.From ≤ p2))) rfl (X_move rfl) ?_
        refine RL.gopd (v := .int .i64 p2) 25 rfl rfl rfl rfl (fun hg => (X_move rfl)) rfl rfl ?_
        refine RL.gopd (v := .pointer (some ⟨B26, 1, none⟩)) 26 rfl rfl rfl rfl (fun hg => (X_fieldAddr Try.underlying64 rfl Try.inf3 rfl rfl)) rfl rfl ?_
        refine RL.gopd (v := .int .i64 x23.To) 27 rfl rfl rfl rfl (fun hg => (X_load Try.underlying3 rfl (gb_on hg) (at_cell (hM.blk 0 rfl) rfl))) rfl rfl ?_
        refine RL.gopd (v := .bool (decide (p2 < x23.To))) 28 rfl rfl rfl rfl (fun hg => (X_lss (gb_on hg) (gb_on hg))) rfl rfl ?_
        refine q (v := .bool (bif decide (x23.From ≤ p2) then decide (p2 < x23.To) else false)) rfl (X_pickB rfl (fun h => gbT h) (fun _ => rfl)) ?_
        refine RL.nil ?_
        refine RW.cond rfl (fun hc28 => ?_) (fun hc28 => ?_)
        · replace H := brT hc28 H
          refine RW.seq ?_
          refine RW.region ?_
          refine q (v := .pointer (some ⟨B26, 1, none⟩)) rfl (X_fieldAddr Try.underlying64 rfl Try.inf3 rfl rfl) ?_
          refine q (v := .int .i64 x23.To) rfl (X_load Try.underlying3 rfl rfl (at_cell (hM.blk 0 rfl) rfl)) ?_
          refine q (v := .int .i64 x23.To) rfl (X_assign rfl) ?_
          refine RL.nil ?_
          refine RW.ret ?_
          replace H := Option.some.inj H
          subst H
          refine retV1 (.inl rfl) rfl (show RV _ _ _ (.tmp 6) (.int .i64 x23.To) from rfl) ?_
          exact ⟨_, rfl, rfl, hM.keeps⟩
        · replace H := brF hc28 H
          refine RW.skip ?_
          refine RW.region ?_
          refine q (v := .int .i64 (w64 (i12 + 1))) rfl (X_addw rfl rfl) ?_
          refine q (v := .int .i64 (w64 (i12 + 1))) rfl (X_move rfl) ?_
          refine RL.nil ?_
          exact ⟨gk1, Nat.lt_succ_self _, w64 (i12 + 1), rfl, rfl, rfl, rfl, hM.sel [1] rfl rfl, H⟩
      · replace H := brF hc22 H
        refine RW.exit ?_
        refine RW.seq ?_
        refine RW.region ?_
        refine q (v := .int .i64 p2) rfl (X_move rfl) ?_
        refine q (v := .int .i64 p2) rfl (X_assign rfl) ?_
        refine RL.nil ?_
        refine RW.ret ?_
        replace H := Option.some.inj H
        subst H
        refine retV1 (.inl rfl) rfl (show RV _ _ _ (.tmp 6) (.int .i64 p2) from rfl) ?_
        exact ⟨_, rfl, rfl, hM.keeps⟩
set_option maxRecDepth 20000 in
theorem rota_In_any (w : World) (p0 : Rota_Rota) (B0_ : Nat) (r0_0 : Option Nat) (G0_0 : Nat → Prop) (p1 : Int) (p2 : Span) (hS : SH (ftl [.blk B0_ [.map r0_0] 70, .mpr r0_0 G0_0 (Value.int .i64) 64 2 Span.E p0.out none]) w w [.blk B0_ [.map r0_0] 70, .mpr r0_0 G0_0 (Value.int .i64) 64 2 Span.E p0.out none]) {y : Rota_Rota} (H : rota_In p0 p1 p2 = some y) :
    Calls Try.prog 20 #[.pointer (some ⟨B0_, 0, none⟩), .int .i64 p1, .agg #[.int .i64 p2.From, .int .i64 p2.To]] w fun e w' => ∃ v, e = .returned v ∧ ∃ (rq0_0 : Option Nat) (Gq0_0 : Nat → Prop), v = .tuple #[] ∧ SH (ftl [.blk B0_ [.map r0_0] 70, .mpr r0_0 G0_0 (Value.int .i64) 64 2 Span.E p0.out none]) w w' [.blk B0_ [.map rq0_0] 70, .mpr rq0_0 Gq0_0 (Value.int .i64) 64 2 Span.E y.out none] := by
  unfold rota_In at H
  refine calls_of_RW Try.func20 rfl (Nat.le_of_ble_eq_true rfl) ?_
  have hM := hS
  refine RW.seq ?_
  refine RW.region ?_
  refine RL.ex rfl (S_box hM [.int .i64 p2.From, .int .i64 p2.To] rfl rfl) ⟨rfl, rfl⟩ ?_
  rintro _ w1 ⟨B2, rfl, hM, hK⟩
  refine RL.nil ?_
  refine RW.seq ?_
  refine RW.seq ?_
  refine RW.region ?_
  refine q (v := .pointer (some ⟨B2, 0, none⟩)) rfl (X_fieldAddr Try.underlying64 rfl Try.inf3 rfl rfl) ?_
  refine q (v := .int .i64 p2.From) rfl (X_load Try.underlying3 rfl rfl (at_cell (hM.blk 0 rfl) rfl)) ?_
  refine q (v := .pointer (some ⟨B2, 1, none⟩)) rfl (X_fieldAddr Try.underlying64 rfl Try.inf3 rfl rfl) ?_
  refine q (v := .int .i64 p2.To) rfl (X_load Try.underlying3 rfl rfl (at_cell (hM.blk 0 rfl) rfl)) ?_
  refine q (v := .bool (decide (p2.To ≤ p2.From))) rfl (X_geq rfl rfl) ?_
  refine RL.nil ?_
  refine RW.cond rfl (fun hc3 => ?_) (fun hc3 => ?_)
  · replace H := brT hc3 H
    refine RW.ret ?_
    replace H := Option.some.inj H
    subst H
    exact ret0 (.inl rfl) rfl ⟨_, rfl, r0_0, G0_0, rfl, hM.sel [1, 2] rfl rfl⟩
  · replace H := brF hc3 H
    refine RW.skip ?_
    refine RW.seq ?_
    refine RW.drawK Try.mixed (fun w4 hw hcl hS => ?_)
    have hM := hM.keep (show Keeps none_ w1 w4 by rw [hw]; exact Keeps.drew _ _)
    clear hw
    have hR2 := hM
    have hKr := Keeps.refl none_ w4
    refine RD.takesK (by kernel_rfl) [0, 1, 2, 3, 4, 5, 6] 3 rfl (by kernel_rfl) hcl hS ?_
    refine RQ.opd 12 rfl rfl rfl (Yld.plain (v := .pointer (some ⟨B0_, 0, none⟩)) rfl (fun _ _ => (X_move rfl))) ?_
    refine RQ.opd 13 rfl rfl rfl (Yld.plain (v := .pointer (some ⟨B0_, 0, none⟩)) rfl (fun _ _ => (X_nilP rfl))) ?_
    refine RQ.opd 14 rfl rfl rfl (Yld.plain (v := .pointer (some ⟨B0_, 0, none⟩)) rfl (fun _ _ => (X_fieldAddr Try.underlying70 rfl Try.inf68 rfl rfl))) ?_
    refine RQ.opd 15 rfl rfl rfl (Yld.K (v := .map r0_0) rfl (fun _ hk => (X_load Try.underlying68 rfl rfl (at_cell ((hR2.keep hk).blk 1 rfl) rfl)))) ?_
    refine RQ.opd 16 rfl rfl rfl (Yld.plain (v := .int .i64 p1) rfl (fun _ _ => (X_move rfl))) ?_
    obtain ⟨A5, c6, G8, hT7⟩ := (hR2.mpr 2 rfl).take p1
    replace hR2 := hR2.take 2 rfl hT7
    replace hM := hM.take 2 rfl (hT7.keep hKr)
    refine RQ.opd 17 rfl rfl rfl (Yld.K (v := .slice A5 (((mget p0.out p1).getD []).length) c6) rfl (fun _ hk => (X_lookR (k := p1) (KeyT.int Try.underlying3) Try.underlying68 rfl rfl ((hR2.keep hk).mpr 3 rfl) Try.inf75))) ?_
    refine RQ.opd 18 rfl rfl rfl (Yld.K (v := .agg #[.int .i64 p2.From, .int .i64 p2.To]) rfl (fun _ hk => (X_loadAgg [.int .i64 p2.From, .int .i64 p2.To] Try.underlying64 rfl Try.inf64 rfl (at_cells ((hR2.keep hk).blk 1 rfl) rfl)))) ?_
    refine RQ.nil ?_
    clear hcl hS
    intro hcl hS
    refine RD.one (i := 7) rfl (by kernel_rfl) hcl hS ?_
    refine RS.ex (by kernel_rfl) hcl rfl rfl (S_lit1 hM Span.E Span.ok p2 Try.underlying75 Try.inf64 rfl rfl rfl rfl) ⟨rfl, rfl⟩ ?_
    rintro _ w9 ⟨A10, c11, rfl, hM, hK⟩
    refine ⟨SK.next hS hK, ?_⟩
    clear hcl hS
    intro hcl hS
    replace hKr := hKr.trans hK
    refine RD.one (i := 8) rfl (by kernel_rfl) hcl hS ?_
    obtain ⟨x12, hx12, H⟩ := bnd_out H
    refine RD.calls (by kernel_rfl) hcl rfl rfl (X_callF Try.en59 rfl) ⟨rfl, rfl⟩ (span_Sub_any _ A5 c6 ((mget p0.out p1).getD []) A10 c11 ([p2]) (hM.ownsl 1 rfl) (hM.ownsl 0 rfl) hx12) ?_
    rintro _ w16 ⟨_, rfl, hO15, hK⟩
    refine ⟨_, rfl, SK.next hS hK, ?_⟩
    clear hcl hS
    intro hcl hS
    obtain ⟨A13, c14, rfl, hM⟩ := hM.addOwn hK hO15
    replace hKr := hKr.trans hK
    refine RD.takesK (by kernel_rfl) [9] 0 rfl (by kernel_rfl) hcl hS ?_
    refine RQ.opd 6 rfl rfl rfl (Yld.plain (v := .slice A13 x12.length c14) rfl (fun _ _ => (X_assign rfl))) ?_
    refine RQ.nil ?_
    clear hcl hS
    intro hcl hS
    refine RD.done (by kernel_rfl) hcl hS ?_
    refine RW.seq ?_
    refine RW.seq ?_
    refine RW.region ?_
    refine q (v := .slice A13 x12.length c14) rfl (X_move rfl) ?_
    refine q (v := .int .i64 (x12.length : Int)) rfl (X_lenE (l := x12) Try.underlying75 rfl) ?_
    refine q (v := .bool (decide ((x12.length : Int) = 0))) rfl (X_eql rfl rfl) ?_
    refine RL.nil ?_
    refine RW.cond rfl (fun hc17 => ?_) (fun hc17 => ?_)
    · replace H := brT hc17 H
      refine RW.seq ?_
      refine RW.region ?_
      refine q (v := .pointer (some ⟨B0_, 0, none⟩)) rfl (X_move rfl) ?_
      refine q (v := .pointer (some ⟨B0_, 0, none⟩)) rfl (X_nilP rfl) ?_
      refine q (v := .pointer (some ⟨B0_, 0, none⟩)) rfl (X_fieldAddr Try.underlying70 rfl Try.inf68 rfl rfl) ?_
      refine q (v := .map r0_0) rfl (X_load Try.underlying68 rfl rfl (at_cell (hM.blk 4 rfl) rfl)) ?_
      refine q (v := .int .i64 p1) rfl (X_move rfl) ?_
      refine RL.exn rfl (S_delR (k := p1) hM 5 rfl (KeyT.int Try.underlying3) Try.underlying68 rfl rfl (by intro q hq; first | (cases hq; done) | (cases hq; rfl))) rfl ?_
      rintro _ w18 ⟨G19, rfl, hM, hK⟩
      refine RL.nil ?_
      refine RW.ret ?_
      replace H := Option.some.inj H
      subst H
      exact ret0 (.inl rfl) rfl ⟨_, rfl, r0_0, G19, rfl, hM.sel [4, 5] rfl rfl⟩
    · replace H := brF hc17 H
      refine RW.skip ?_
      refine RW.region ?_
      refine q (v := .pointer (some ⟨B0_, 0, none⟩)) rfl (X_move rfl) ?_
      refine q (v := .pointer (some ⟨B0_, 0, none⟩)) rfl (X_nilP rfl) ?_
      refine q (v := .pointer (some ⟨B0_, 0, none⟩)) rfl (X_fieldAddr Try.underlying70 rfl Try.inf68 rfl rfl) ?_
      refine q (v := .map r0_0) rfl (X_load Try.underlying68 rfl rfl (at_cell (hM.blk 4 rfl) rfl)) ?_
      refine q (v := .int .i64 p1) rfl (X_move rfl) ?_
      refine q (v := .slice A13 x12.length c14) rfl (X_move rfl) ?_
      obtain ⟨hk21, H⟩ := chk_out H
      refine RL.exs rfl (S_mapR (k := p1) hM 5 0 rfl rfl rfl (KeyT.int Try.underlying3) Try.underlying68 rfl rfl rfl hk21 (by intro q hq; first | (cases hq; done) | (cases hq; rfl))) rfl ?_
      rintro w20 ⟨G22, hM, hK⟩
      refine RL.nil ?_
      replace H := Option.some.inj H
      subst H
      exact ret0 (.inr rfl) rfl ⟨_, rfl, r0_0, G22, rfl, hM.sel [4, 5] rfl rfl⟩
set_option maxRecDepth 20000 in
theorem ref09_bounds_any (w : World) (A0_ : Option Addr) (c0_ : Nat) (p0 : List Span) (A1_ : Option Addr) (c1_ : Nat) (p1 : List Span) (hs0 : SL w A0_ c0_ p0 Span.E) (hs1 : SL w A1_ c1_ p1 Span.E) {y : List Int} (H : ref09_bounds p0 p1 = some y) :
    Calls Try.prog 61 #[.slice A0_ p0.length c0_, .slice A1_ p1.length c1_] w fun e w' => ∃ v, e = .returned v ∧ OwnR w w' 3 1 (eInt .i64) v y ∧ Keeps none_ w w' := by
  unfold ref09_bounds at H
  refine calls_of_RW Try.func61 rfl (Nat.le_of_ble_eq_true rfl) ?_
  have hM := SH.start w
  replace hM := hM.startSL hs0
  replace hM := hM.startSL hs1
  refine RW.seq ?_
  refine RW.region ?_
  refine q (v := .slice none 0 0) rfl (X_assign rfl) ?_
  refine RL.nil ?_
  refine RW.seq ?_
  refine RW.region ?_
  refine q (v := .slice none 0 0) rfl (X_assign rfl) ?_
  refine RL.nil ?_
  refine RW.seq ?_
  refine RW.region ?_
  refine RL.ex rfl (S_lit0 hM Span.E Span.ok Try.underlying75 Try.inf64) ⟨rfl, rfl⟩ ?_
  rintro _ w1 ⟨A2, c3, rfl, hM, hK⟩
  refine q (v := .slice A0_ p0.length c0_) rfl (X_move rfl) ?_
  obtain ⟨hk5, H⟩ := chk_out H
  refine RL.ex rfl (S_append (l := ([] : List Span)) (ys := p0) hM 0 rfl Span.ok Try.underlying75 Try.inf64 rfl rfl rfl rfl (hM.sl 2 rfl) hk5) ⟨rfl, rfl⟩ ?_
  rintro _ w4 ⟨A6, c7, rfl, hM, hK⟩
  refine q (v := .slice A1_ p1.length c1_) rfl (X_move rfl) ?_
  obtain ⟨hk9, H⟩ := chk_out H
  refine RL.ex rfl (S_append (l := (([] : List Span) ++ p0)) (ys := p1) hM 0 rfl Span.ok Try.underlying75 Try.inf64 rfl rfl rfl rfl (hM.sl 1 rfl) hk9) ⟨rfl, rfl⟩ ?_
  rintro _ w8 ⟨A10, c11, rfl, hM, hK⟩
  refine q (v := .slice A10 (((([] : List Span) ++ p0) ++ p1).length) c11) rfl (X_assign rfl) ?_
  refine RL.nil ?_
  refine RW.seq ?_
  refine RW.seq ?_
  refine RW.region ?_
  refine q (v := .int .i64 0) rfl (X_assign rfl) ?_
  refine RL.nil ?_
  refine RW.block ?_
  replace hM := hM.addNil 3 1 (eInt .i64)
  refine RW.loop (fun gk φ wr => ∃ (A51 : Option Addr) (c52 : Nat) (l53 : List Int) (i54 : Int), φ 5 = .slice A51 l53.length c52 ∧ φ 6 = .slice A10 (((([] : List Span) ++ p0) ++ p1).length) c11 ∧ φ 7 = .int .i64 i54 ∧ SH none_ w wr [.own 64 2 A10 c11 ((([] : List Span) ++ p0) ++ p1) Span.E, .own 3 1 A51 c52 l53 (eInt .i64)] ∧ ref09_bounds_l1 p0 p1 gk l53 i54 = some y) N0 ?_ ?_
  · exact ⟨none, 0, ([] : List Int), 0, rfl, rfl, rfl, hM.sel [1, 0] rfl rfl, H⟩
  · rintro gk1 φ w98 ⟨A51, c52, l53, i54, h_5, h_6, h_7, hM, H⟩
    obtain ⟨φ0, rfl⟩ : ∃ φ0, φ = upd (upd (upd φ0 5 (.slice A51 l53.length c52)) 6 (.slice A10 (((([] : List Span) ++ p0) ++ p1).length) c11)) 7 (.int .i64 i54) := ⟨φ, by rw [upd_of h_5, upd_of h_6, upd_of h_7]⟩
    clear h_5 h_6 h_7
    cases gk1 with
    | zero => exact (no_out H).elim
    | succ gk1 =>
      replace H : ref09_bounds_l1_b p0 p1 (ref09_bounds_l1 p0 p1 gk1) l53 i54 = some y := H
      unfold ref09_bounds_l1_b at H
      refine RW.seq ?_
      refine RW.seq ?_
      refine RW.region ?_
      refine q (v := .int .i64 i54) rfl (X_move rfl) ?_
      refine q (v := .slice A10 (((([] : List Span) ++ p0) ++ p1).length) c11) rfl (X_move rfl) ?_
      refine q (v := .int .i64 (((([] : List Span) ++ p0) ++ p1).length : Int)) rfl (X_lenE (l := ((([] : List Span) ++ p0) ++ p1)) Try.underlying75 rfl) ?_
      refine q (v := .int .i64 (w64 (2 * (((([] : List Span) ++ p0) ++ p1).length : Int)))) rfl (X_mulw rfl rfl) ?_
      refine q (v := .bool (decide (i54 < (w64 (2 * (((([] : List Span) ++ p0) ++ p1).length : Int)))))) rfl (X_lss rfl rfl) ?_
      refine RL.nil ?_
      refine RW.cond rfl (fun hc99 => ?_) (fun hc99 => ?_)
      · replace H := brT hc99 H
        refine RW.skip ?_
        refine RW.seq ?_
        refine RW.block ?_
        refine RW.seq ?_
        refine RW.region ?_
        refine q (v := .slice A10 (((([] : List Span) ++ p0) ++ p1).length) c11) rfl (X_move rfl) ?_
        refine q (v := .int .i64 i54) rfl (X_move rfl) ?_
        refine q (v := .int .i64 (w64 (Int.tdiv i54 2))) rfl (X_quow rfl rfl (by decide)) ?_
        obtain ⟨x100, hx100, H⟩ := bnd_out H
        have hA101 := el_isA Span.ok (hM.ownsl 0 rfl).1 hx100
        refine q (v := .pointer (ea A10 ((w64 (Int.tdiv i54 2)).toNat * 2))) rfl (X_indexAddrE Try.underlying75 Try.inf64 rfl rfl (idx_inr hx100) hA101) ?_
        refine q (v := .pointer (ea A10 ((w64 (Int.tdiv i54 2)).toNat * 2))) rfl (X_fieldAddrE Try.underlying64 rfl Try.inf3 rfl hA101 rfl) ?_
        refine q (v := .int .i64 x100.From) rfl (X_loadE Try.underlying3 rfl rfl (el_rd Span.ok (hM.ownsl 0 rfl).1 hx100 (j := 0) rfl)) ?_
        refine q (v := .int .i64 x100.From) rfl (X_assign rfl) ?_
        refine RL.nil ?_
        refine RW.cut (fun φ wr => ∃ (i103 : Int), φ 5 = .slice A51 l53.length c52 ∧ φ 6 = .slice A10 (((([] : List Span) ++ p0) ++ p1).length) c11 ∧ φ 7 = .int .i64 i54 ∧ φ 8 = .int .i64 i103 ∧ SH none_ w wr [.own 64 2 A10 c11 ((([] : List Span) ++ p0) ++ p1) Span.E, .own 3 1 A51 c52 l53 (eInt .i64)] ∧ ref09_bounds_j2 l53 i54 (ref09_bounds_l1 p0 p1 gk1) i103 = some y) ?_ ?_
        · -- up to the join
          refine RW.seq ?_
          refine RW.region ?_
          refine q (v := .int .i64 i54) rfl (X_move rfl) ?_
          refine q (v := .int .i64 (Int.tmod i54 2)) rfl (X_remw rfl rfl (by decide)) ?_
          refine q (v := .bool (decide ((Int.tmod i54 2) = 1))) rfl (X_eql rfl rfl) ?_
          refine RL.nil ?_
          refine RW.cond rfl (fun hc133 => ?_) (fun hc133 => ?_)
          · replace H := brT hc133 H
            refine RW.region ?_
            refine q (v := .slice A10 (((([] : List Span) ++ p0) ++ p1).length) c11) rfl (X_move rfl) ?_
            refine q (v := .int .i64 i54) rfl (X_move rfl) ?_
            refine q (v := .int .i64 (w64 (Int.tdiv i54 2))) rfl (X_quow rfl rfl (by decide)) ?_
            refine q (v := .pointer (ea A10 ((w64 (Int.tdiv i54 2)).toNat * 2))) rfl (X_indexAddrE Try.underlying75 Try.inf64 rfl rfl (idx_inr hx100) hA101) ?_
            refine q (v := .pointer (ea A10 ((w64 (Int.tdiv i54 2)).toNat * 2 + 1))) rfl (X_fieldAddrE Try.underlying64 rfl Try.inf3 rfl hA101 rfl) ?_
            refine q (v := .int .i64 x100.To) rfl (X_loadE Try.underlying3 rfl rfl (el_rd Span.ok (hM.ownsl 0 rfl).1 hx100 (j := 1) rfl)) ?_
            refine q (v := .int .i64 x100.To) rfl (X_assign rfl) ?_
            refine RL.nil ?_
            exact ⟨x100.To, rfl, rfl, rfl, rfl, hM.sel [0, 1] rfl rfl, H⟩
          · replace H := brF hc133 H
            refine RW.skip ?_
            exact ⟨x100.From, rfl, rfl, rfl, rfl, hM.sel [0, 1] rfl rfl, H⟩
        · rintro φ w104 ⟨i103, h_5, h_6, h_7, h_8, hM, H⟩
          obtain ⟨φ0, rfl⟩ : ∃ φ0, φ = upd (upd (upd (upd φ0 5 (.slice A51 l53.length c52)) 6 (.slice A10 (((([] : List Span) ++ p0) ++ p1).length) c11)) 7 (.int .i64 i54)) 8 (.int .i64 i103) := ⟨φ, by rw [upd_of h_5, upd_of h_6, upd_of h_7, upd_of h_8]⟩
          clear h_5 h_6 h_7 h_8
          refine RW.seq ?_
          refine RW.region ?_
          refine q (v := .int .i64 0) rfl (X_assign rfl) ?_
          refine RL.nil ?_
          refine RW.seq ?_
          refine RW.block ?_
          refine RW.loop (fun gk φ wr => ∃ (i108 : Int), φ 5 = .slice A51 l53.length c52 ∧ φ 6 = .slice A10 (((([] : List Span) ++ p0) ++ p1).length) c11 ∧ φ 7 = .int .i64 i54 ∧ φ 8 = .int .i64 i103 ∧ φ 9 = .int .i64 i108 ∧ SH none_ w wr [.own 64 2 A10 c11 ((([] : List Span) ++ p0) ++ p1) Span.E, .own 3 1 A51 c52 l53 (eInt .i64)] ∧ ref09_bounds_l3 l53 i54 (ref09_bounds_l1 p0 p1 gk1) i103 gk i108 = some y) N0 ?_ ?_
          · exact ⟨0, rfl, rfl, rfl, rfl, rfl, hM.sel [0, 1] rfl rfl, H⟩
          · rintro gk3 φ w112 ⟨i108, h_5, h_6, h_7, h_8, h_9, hM, H⟩
            obtain ⟨φ0, rfl⟩ : ∃ φ0, φ = upd (upd (upd (upd (upd φ0 5 (.slice A51 l53.length c52)) 6 (.slice A10 (((([] : List Span) ++ p0) ++ p1).length) c11)) 7 (.int .i64 i54)) 8 (.int .i64 i103)) 9 (.int .i64 i108) := ⟨φ, by rw [upd_of h_5, upd_of h_6, upd_of h_7, upd_of h_8, upd_of h_9]⟩
            clear h_5 h_6 h_7 h_8 h_9
            cases gk3 with
            | zero => exact (no_out H).elim
            | succ gk3 =>
              replace H : ref09_bounds_l3_b l53 i54 (ref09_bounds_l1 p0 p1 gk1) i103 (ref09_bounds_l3 l53 i54 (ref09_bounds_l1 p0 p1 gk1) i103 gk3) i108 = some y := H
              unfold ref09_bounds_l3_b at H
              refine RW.seq ?_
              refine RW.seq ?_
              refine RW.region ?_
              refine q (v := .int .i64 i108) rfl (X_move rfl) ?_
              refine q (v := .slice A51 l53.length c52) rfl (X_move rfl) ?_
              refine q (v := .int .i64 (l53.length : Int)) rfl (X_lenE (l := l53) Try.underlying27 rfl) ?_
              refine q (v := .bool (decide (i108 < (l53.length : Int)))) rfl (X_lss rfl rfl) ?_
              refine q (v := .bool (decide (i108 < (l53.length : Int)))) rfl (X_move rfl) ?_
              refine RL.gopd (v := .slice A51 l53.length c52) 43 rfl rfl rfl rfl (fun hg => (X_move rfl)) rfl rfl ?_
              refine RL.gopd (v := .int .i64 i108) 44 rfl rfl rfl rfl (fun hg => (X_move rfl)) rfl rfl ?_
              obtain ⟨x113, hx113, H⟩ := bnd_out H
              refine RL.gopd (v := .pointer (ea A51 (i108.toNat * 1))) 45 rfl rfl rfl rfl (fun hg => (X_indexAddrE Try.underlying27 Try.inf3 (gb_on hg) (gb_on hg) (idx_inr (gI_out hx113 hg)) (el_isA (eInt_ok .i64) (hM.ownsl 1 rfl).1 (gI_out hx113 hg)))) rfl rfl ?_
              refine RL.gopd (v := .int .i64 x113) 46 rfl rfl rfl rfl (fun hg => (X_loadE Try.underlying3 rfl (gb_on hg) (el_rd (eInt_ok .i64) (hM.ownsl 1 rfl).1 (gI_out hx113 hg) (j := 0) rfl))) rfl rfl ?_
              refine RL.gopd (v := .int .i64 i103) 47 rfl rfl rfl rfl (fun hg => (X_move rfl)) rfl rfl ?_
              refine RL.gopd (v := .bool (decide (x113 < i103))) 48 rfl rfl rfl rfl (fun hg => (X_lss (gb_on hg) (gb_on hg))) rfl rfl ?_
              refine q (v := .bool (bif decide (i108 < (l53.length : Int)) then decide (x113 < i103) else false)) rfl (X_pickB rfl (fun h => gbT h) (fun _ => rfl)) ?_
              refine RL.nil ?_
              refine RW.cond rfl (fun hc114 => ?_) (fun hc114 => ?_)
              · replace H := brT hc114 H
                refine RW.skip ?_
                refine RW.block ?_
                refine RW.region ?_
                refine q (v := .int .i64 i108) rfl (X_move rfl) ?_
                refine q (v := .int .i64 (w64 (i108 + 1))) rfl (X_addw rfl rfl) ?_
                refine q (v := .int .i64 (w64 (i108 + 1))) rfl (X_assign rfl) ?_
                refine RL.nil ?_
                exact ⟨gk3, Nat.lt_succ_self _, w64 (i108 + 1), rfl, rfl, rfl, rfl, rfl, hM.sel [0, 1] rfl rfl, H⟩
              · replace H := brF hc114 H
                refine RW.exit ?_
                refine RW.seq ?_
                refine RW.seq ?_
                refine RW.region ?_
                refine q (v := .int .i64 i108) rfl (X_move rfl) ?_
                refine q (v := .slice A51 l53.length c52) rfl (X_move rfl) ?_
                refine q (v := .int .i64 (l53.length : Int)) rfl (X_lenE (l := l53) Try.underlying27 rfl) ?_
                refine q (v := .bool (decide (i108 < (l53.length : Int)))) rfl (X_lss rfl rfl) ?_
                refine q (v := .bool (decide (i108 < (l53.length : Int)))) rfl (X_move rfl) ?_
                refine RL.gopd (v := .slice A51 l53.length c52) 57 rfl rfl rfl rfl (fun hg => (X_move rfl)) rfl rfl ?_
                refine RL.gopd (v := .int .i64 i108) 58 rfl rfl rfl rfl (fun hg => (X_move rfl)) rfl rfl ?_
                refine RL.gopd (v := .pointer (ea A51 (i108.toNat * 1))) 59 rfl rfl rfl rfl (fun hg => (X_indexAddrE Try.underlying27 Try.inf3 (gb_on hg) (gb_on hg) (idx_inr (gI_out hx113 hg)) (el_isA (eInt_ok .i64) (hM.ownsl 1 rfl).1 (gI_out hx113 hg)))) rfl rfl ?_
                refine RL.gopd (v := .int .i64 x113) 60 rfl rfl rfl rfl (fun hg => (X_loadE Try.underlying3 rfl (gb_on hg) (el_rd (eInt_ok .i64) (hM.ownsl 1 rfl).1 (gI_out hx113 hg) (j := 0) rfl))) rfl rfl ?_
                refine RL.gopd (v := .int .i64 i103) 61 rfl rfl rfl rfl (fun hg => (X_move rfl)) rfl rfl ?_
                refine RL.gopd (v := .bool (decide (x113 = i103))) 62 rfl rfl rfl rfl (fun hg => (X_eql (gb_on hg) (gb_on hg))) rfl rfl ?_
                refine q (v := .bool (bif decide (i108 < (l53.length : Int)) then decide (x113 = i103) else false)) rfl (X_pickB rfl (fun h => gbT h) (fun _ => rfl)) ?_
                refine RL.nil ?_
                refine RW.cond rfl (fun hc115 => ?_) (fun hc115 => ?_)
                · replace H := brT hc115 H
                  refine RW.exit ?_
                  refine RW.region ?_
                  refine q (v := .int .i64 i54) rfl (X_move rfl) ?_
                  refine q (v := .int .i64 (w64 (i54 + 1))) rfl (X_addw rfl rfl) ?_
                  refine q (v := .int .i64 (w64 (i54 + 1))) rfl (X_assign rfl) ?_
                  refine RL.nil ?_
                  exact ⟨gk1, Nat.lt_succ_self _, A51, c52, l53, w64 (i54 + 1), rfl, rfl, rfl, hM.sel [0, 1] rfl rfl, H⟩
                · replace H := brF hc115 H
                  refine RW.skip ?_
                  refine RW.seq ?_
                  refine RW.region ?_
                  refine q (v := .slice none 0 0) rfl (X_assign rfl) ?_
                  refine RL.nil ?_
                  refine RW.seq ?_
                  refine RW.region ?_
                  refine q (v := .slice none 0 0) rfl (X_move rfl) ?_
                  refine q (v := .slice A51 l53.length c52) rfl (X_move rfl) ?_
                  refine q (v := .int .i64 i108) rfl (X_move rfl) ?_
                  obtain ⟨hk116, H⟩ := chk_out H
                  refine q (v := .slice A51 ((l53.take i108.toNat).length) c52) rfl (X_takeE (l := l53) Try.underlying27 Try.inf3 rfl rfl hk116 (hM.ownsl 1 rfl).2) ?_
                  replace hM := hM.addNil 3 1 (eInt .i64)
                  obtain ⟨hk118, H⟩ := chk_out H
                  refine RL.ex rfl (S_append (l := ([] : List Int)) (ys := (l53.take i108.toNat)) hM 0 rfl (eInt_ok .i64) Try.underlying27 Try.inf3 rfl rfl rfl rfl (SL.take (hM.ownsl 2 rfl) (i108.toNat)) hk118) ⟨rfl, rfl⟩ ?_
                  rintro _ w117 ⟨A119, c120, rfl, hM, hK⟩
                  refine q (v := .slice A119 ((([] : List Int) ++ (l53.take i108.toNat)).length) c120) rfl (X_assign rfl) ?_
                  refine RL.nil ?_
                  refine RW.seq ?_
                  refine RW.region ?_
                  refine q (v := .slice A119 ((([] : List Int) ++ (l53.take i108.toNat)).length) c120) rfl (X_move rfl) ?_
                  refine q (v := .int .i64 i103) rfl (X_move rfl) ?_
                  refine RL.ex rfl (S_lit1 hM (eInt .i64) (eInt_ok .i64) i103 Try.underlying27 Try.inf3 rfl rfl rfl rfl) ⟨rfl, rfl⟩ ?_
                  rintro _ w121 ⟨A122, c123, rfl, hM, hK⟩
                  obtain ⟨hk125, H⟩ := chk_out H
                  refine RL.ex rfl (S_append (l := (([] : List Int) ++ (l53.take i108.toNat))) (ys := [i103]) hM 1 rfl (eInt_ok .i64) Try.underlying27 Try.inf3 rfl rfl rfl rfl (hM.ownsl 0 rfl) hk125) ⟨rfl, rfl⟩ ?_
                  rintro _ w124 ⟨A126, c127, rfl, hM, hK⟩
                  refine q (v := .slice A126 (((([] : List Int) ++ (l53.take i108.toNat)) ++ ([i103])).length) c127) rfl (X_assign rfl) ?_
                  refine RL.nil ?_
                  refine RW.region ?_
                  refine q (v := .slice A126 (((([] : List Int) ++ (l53.take i108.toNat)) ++ ([i103])).length) c127) rfl (X_move rfl) ?_
                  refine q (v := .slice A51 l53.length c52) rfl (X_move rfl) ?_
                  refine q (v := .int .i64 i108) rfl (X_move rfl) ?_
                  obtain ⟨hk128, H⟩ := chk_out H
                  refine q (v := .slice (sA A51 c52 i108.toNat 1) ((l53.drop i108.toNat).length) (c52 - i108.toNat)) rfl (X_dropE (l := l53) Try.underlying27 Try.inf3 rfl rfl hk128) ?_
                  obtain ⟨hk130, H⟩ := chk_out H
                  refine RL.ex rfl (S_append (l := ((([] : List Int) ++ (l53.take i108.toNat)) ++ ([i103]))) (ys := (l53.drop i108.toNat)) hM 1 rfl (eInt_ok .i64) Try.underlying27 Try.inf3 rfl rfl rfl rfl (SL.drop (eInt_ok .i64) (hM.ownsl 3 rfl) (i108.toNat)) hk130) ⟨rfl, rfl⟩ ?_
                  rintro _ w129 ⟨A131, c132, rfl, hM, hK⟩
                  refine q (v := .slice A131 ((((([] : List Int) ++ (l53.take i108.toNat)) ++ ([i103])) ++ (l53.drop i108.toNat)).length) c132) rfl (X_assign rfl) ?_
                  refine RL.nil ?_
                  refine RW.region ?_
                  refine q (v := .int .i64 i54) rfl (X_move rfl) ?_
                  refine q (v := .int .i64 (w64 (i54 + 1))) rfl (X_addw rfl rfl) ?_
                  refine q (v := .int .i64 (w64 (i54 + 1))) rfl (X_assign rfl) ?_
                  refine RL.nil ?_
                  exact ⟨gk1, Nat.lt_succ_self _, A131, c132, (((([] : List Int) ++ (l53.take i108.toNat)) ++ ([i103])) ++ (l53.drop i108.toNat)), w64 (i54 + 1), rfl, rfl, rfl, hM.sel [2, 1] rfl rfl, H⟩
      · replace H := brF hc99 H
        refine RW.exit ?_
        refine RW.seq ?_
        refine RW.region ?_
        refine q (v := .slice A51 l53.length c52) rfl (X_move rfl) ?_
        refine q (v := .slice A51 l53.length c52) rfl (X_assign rfl) ?_
        refine RL.nil ?_
        refine RW.ret ?_
        replace H := Option.some.inj H
        subst H
        refine retV1 (.inl rfl) rfl (show RV _ _ _ (.tmp 4) (.slice A51 l53.length c52) from rfl) ?_
        exact ⟨_, rfl, hM.ownR 1 rfl, hM.keeps⟩
set_option maxRecDepth 20000 in
theorem ref09_Make_any (w : World) (A0_ : Option Addr) (c0_ : Nat) (p0 : List Span) (A1_ : Option Addr) (c1_ : Nat) (p1 : List Span) (p2 : Int) (hs0 : SL w A0_ c0_ p0 Span.E) (hs1 : SL w A1_ c1_ p1 Span.E) {y : List Span} (H : ref09_Make p0 p1 p2 = some y) :
    Calls Try.prog 25 #[.slice A0_ p0.length c0_, .slice A1_ p1.length c1_, .int .i64 p2] w fun e w' => ∃ v, e = .returned v ∧ OwnR w w' 64 2 Span.E v y ∧ Keeps none_ w w' := by
  unfold ref09_Make at H
  refine calls_of_RW Try.func25 rfl (Nat.le_of_ble_eq_true rfl) ?_
  have hM := SH.start w
  replace hM := hM.startSL hs0
  replace hM := hM.startSL hs1
  refine RW.seq ?_
  refine RW.region ?_
  refine q (v := .slice none 0 0) rfl (X_assign rfl) ?_
  refine RL.nil ?_
  refine RW.seq ?_
  refine RW.region ?_
  refine q (v := .slice A0_ p0.length c0_) rfl (X_move rfl) ?_
  refine q (v := .slice A1_ p1.length c1_) rfl (X_move rfl) ?_
  obtain ⟨x1, hx1, H⟩ := bnd_out H
  refine RL.call rfl (X_callF Try.en61 rfl) ⟨rfl, rfl⟩ (ref09_bounds_any _ A0_ c0_ p0 A1_ c1_ p1 (hM.sl 1 rfl) (hM.sl 0 rfl) hx1) ?_
  rintro _ w5 ⟨_, rfl, hO4, hK⟩
  refine ⟨_, rfl, ?_⟩
  obtain ⟨A2, c3, rfl, hM⟩ := hM.addOwn hK hO4
  refine q (v := .slice A2 x1.length c3) rfl (X_assign rfl) ?_
  refine RL.nil ?_
  refine RW.seq ?_
  refine RW.region ?_
  refine q (v := .slice none 0 0) rfl (X_assign rfl) ?_
  refine RL.nil ?_
  refine RW.seq ?_
  refine RW.seq ?_
  refine RW.region ?_
  refine q (v := .int .i64 0) rfl (X_assign rfl) ?_
  refine RL.nil ?_
  refine RW.block ?_
  replace hM := hM.addNil 64 2 Span.E
  refine RW.loop (fun gk φ wr => ∃ (A50 : Option Addr) (c51 : Nat) (l52 : List Span) (i53 : Int), φ 0 = .slice A0_ p0.length c0_ ∧ φ 1 = .slice A1_ p1.length c1_ ∧ φ 2 = .int .i64 p2 ∧ φ 7 = .slice A2 x1.length c3 ∧ φ 8 = .slice A50 l52.length c51 ∧ φ 9 = .int .i64 i53 ∧ SH none_ w wr [.own 64 2 A50 c51 l52 Span.E, .own 3 1 A2 c3 x1 (eInt .i64), .sl A1_ c1_ p1 Span.E, .sl A0_ c0_ p0 Span.E] ∧ ref09_Make_l1 p0 p1 p2 x1 gk l52 i53 = some y) N0 ?_ ?_
  · exact ⟨none, 0, ([] : List Span), 0, rfl, rfl, rfl, rfl, rfl, rfl, hM.sel [0, 1, 2, 3] rfl rfl, H⟩
  · rintro gk1 φ w98 ⟨A50, c51, l52, i53, h_0, h_1, h_2, h_7, h_8, h_9, hM, H⟩
    obtain ⟨φ0, rfl⟩ : ∃ φ0, φ = upd (upd (upd (upd (upd (upd φ0 0 (.slice A0_ p0.length c0_)) 1 (.slice A1_ p1.length c1_)) 2 (.int .i64 p2)) 7 (.slice A2 x1.length c3)) 8 (.slice A50 l52.length c51)) 9 (.int .i64 i53) := ⟨φ, by rw [upd_of h_0, upd_of h_1, upd_of h_2, upd_of h_7, upd_of h_8, upd_of h_9]⟩
    clear h_0 h_1 h_2 h_7 h_8 h_9
    cases gk1 with
    | zero => exact (no_out H).elim
    | succ gk1 =>
      replace H : ref09_Make_l1_b p0 p1 p2 x1 (ref09_Make_l1 p0 p1 p2 x1 gk1) l52 i53 = some y := H
      unfold ref09_Make_l1_b at H
      refine RW.seq ?_
      refine RW.seq ?_
      refine RW.region ?_
      refine q (v := .int .i64 i53) rfl (X_move rfl) ?_
      refine q (v := .int .i64 (w64 (i53 + 1))) rfl (X_addw rfl rfl) ?_
      refine q (v := .slice A2 x1.length c3) rfl (X_move rfl) ?_
      refine q (v := .int .i64 (x1.length : Int)) rfl (X_lenE (l := x1) Try.underlying27 rfl) ?_
      refine q (v := .bool (decide ((w64 (i53 + 1)) < (x1.length : Int)))) rfl (X_lss rfl rfl) ?_
      refine RL.nil ?_
      refine RW.cond rfl (fun hc99 => ?_) (fun hc99 => ?_)
      · replace H := brT hc99 H
        refine RW.skip ?_
        refine RW.seq ?_
        refine RW.block ?_
        refine RW.seq ?_
        refine RW.region ?_
        refine q (v := .slice A0_ p0.length c0_) rfl (X_move rfl) ?_
        refine q (v := .slice A2 x1.length c3) rfl (X_move rfl) ?_
        refine q (v := .int .i64 i53) rfl (X_move rfl) ?_
        obtain ⟨x100, hx100, H⟩ := bnd_out H
        have hA101 := el_isA (eInt_ok .i64) (hM.ownsl 1 rfl).1 hx100
        refine q (v := .pointer (ea A2 (i53.toNat * 1))) rfl (X_indexAddrE Try.underlying27 Try.inf3 rfl rfl (idx_inr hx100) hA101) ?_
        refine q (v := .int .i64 x100) rfl (X_loadE Try.underlying3 rfl rfl (el_rd (eInt_ok .i64) (hM.ownsl 1 rfl).1 hx100 (j := 0) rfl)) ?_
        obtain ⟨x102, hx102, H⟩ := bnd_out H
        refine RL.call rfl (X_callF Try.en26 rfl) ⟨rfl, rfl⟩ (ref09_Has_any _ A0_ c0_ p0 x100 (hM.sl 3 rfl) hx102) ?_
        rintro _ w103 ⟨_, rfl, rfl, hK⟩
        refine ⟨_, rfl, ?_⟩
        replace hM := hM.keep hK
        refine q (v := .bool x102) rfl (X_assign rfl) ?_
        refine RL.nil ?_
        refine RW.cut (fun φ wr => ∃ (b107 : Bool), φ 0 = .slice A0_ p0.length c0_ ∧ φ 1 = .slice A1_ p1.length c1_ ∧ φ 2 = .int .i64 p2 ∧ φ 7 = .slice A2 x1.length c3 ∧ φ 8 = .slice A50 l52.length c51 ∧ φ 9 = .int .i64 i53 ∧ φ 10 = .bool b107 ∧ SH none_ w wr [.own 64 2 A50 c51 l52 Span.E, .own 3 1 A2 c3 x1 (eInt .i64), .sl A1_ c1_ p1 Span.E, .sl A0_ c0_ p0 Span.E] ∧ ref09_Make_j2 p1 p2 x1 l52 i53 (ref09_Make_l1 p0 p1 p2 x1 gk1) x100 b107 = some y) ?_ ?_
        · -- up to the join
          refine RW.seq ?_
          refine RW.region ?_
          refine q (v := .int .i64 p2) rfl (X_move rfl) ?_
          refine q (v := .bool (decide (p2 = 1))) rfl (X_eql rfl rfl) ?_
          refine RL.nil ?_
          refine RW.cond rfl (fun hc136 => ?_) (fun hc136 => ?_)
          · replace H := brT hc136 H
            refine RW.region ?_
            refine q (v := .bool x102) rfl (X_move rfl) ?_
            refine q (v := .bool x102) rfl (X_move rfl) ?_
            refine RL.gopd (v := .slice A1_ p1.length c1_) 32 rfl rfl rfl rfl (fun hg => (X_move rfl)) rfl rfl ?_
            refine RL.gopd (v := .slice A2 x1.length c3) 33 rfl rfl rfl rfl (fun hg => (X_move rfl)) rfl rfl ?_
            refine RL.gopd (v := .int .i64 i53) 34 rfl rfl rfl rfl (fun hg => (X_move rfl)) rfl rfl ?_
            refine RL.gopd (v := .pointer (ea A2 (i53.toNat * 1))) 35 rfl rfl rfl rfl (fun hg => (X_indexAddrE Try.underlying27 Try.inf3 (gb_on hg) (gb_on hg) (idx_inr hx100) hA101)) rfl rfl ?_
            refine RL.gopd (v := .int .i64 x100) 36 rfl rfl rfl rfl (fun hg => (X_loadE Try.underlying3 rfl (gb_on hg) (el_rd (eInt_ok .i64) (hM.ownsl 1 rfl).1 hx100 (j := 0) rfl))) rfl rfl ?_
            obtain ⟨x137, hx137, H⟩ := bnd_out H
            refine RL.gcallp (Rv := fun v _ => v = .bool x137) rfl rfl rfl rfl ⟨rfl, rfl⟩ (fun hg => (X_callF Try.en26 (congrArg List.toArray (ac (gb_on (q := x102 == true) (v := .slice A1_ p1.length c1_) hg) (ac (gb_on (q := x102 == true) (v := .int .i64 x100) hg) rfl))))) (fun hg => ref09_Has_any _ A1_ c1_ p1 x100 (hM.sl 2 rfl) (gI_out hx137 hg)) ?_
            rintro vw138 w138 hv hK
            rw [gb_to (v' := .bool x137) hv]
            replace hM := hM.keep hK
            refine q (v := .bool (bif x102 then x137 else false)) rfl (X_pickB rfl (fun h => gbT h) (fun _ => rfl)) ?_
            refine q (v := .bool (bif x102 then x137 else false)) rfl (X_assign rfl) ?_
            refine RL.nil ?_
            exact ⟨bif x102 then x137 else false, rfl, rfl, rfl, rfl, rfl, rfl, rfl, hM.sel [0, 1, 2, 3] rfl rfl, H⟩
          · replace H := brF hc136 H
            refine RW.skip ?_
            exact ⟨x102, rfl, rfl, rfl, rfl, rfl, rfl, rfl, hM.sel [0, 1, 2, 3] rfl rfl, H⟩
        · rintro φ w108 ⟨b107, h_0, h_1, h_2, h_7, h_8, h_9, h_10, hM, H⟩
          obtain ⟨φ0, rfl⟩ : ∃ φ0, φ = upd (upd (upd (upd (upd (upd (upd φ0 0 (.slice A0_ p0.length c0_)) 1 (.slice A1_ p1.length c1_)) 2 (.int .i64 p2)) 7 (.slice A2 x1.length c3)) 8 (.slice A50 l52.length c51)) 9 (.int .i64 i53)) 10 (.bool b107) := ⟨φ, by rw [upd_of h_0, upd_of h_1, upd_of h_2, upd_of h_7, upd_of h_8, upd_of h_9, upd_of h_10]⟩
          clear h_0 h_1 h_2 h_7 h_8 h_9 h_10
          refine RW.cut (fun φ wr => ∃ (b112 : Bool), φ 0 = .slice A0_ p0.length c0_ ∧ φ 1 = .slice A1_ p1.length c1_ ∧ φ 2 = .int .i64 p2 ∧ φ 7 = .slice A2 x1.length c3 ∧ φ 8 = .slice A50 l52.length c51 ∧ φ 9 = .int .i64 i53 ∧ φ 10 = .bool b112 ∧ SH none_ w wr [.own 64 2 A50 c51 l52 Span.E, .own 3 1 A2 c3 x1 (eInt .i64), .sl A1_ c1_ p1 Span.E, .sl A0_ c0_ p0 Span.E] ∧ ref09_Make_j3 x1 l52 i53 (ref09_Make_l1 p0 p1 p2 x1 gk1) x100 b112 = some y) ?_ ?_
          · -- up to the join
            refine RW.seq ?_
            refine RW.region ?_
            refine q (v := .int .i64 p2) rfl (X_move rfl) ?_
            refine q (v := .bool (decide (p2 = 2))) rfl (X_eql rfl rfl) ?_
            refine RL.nil ?_
            refine RW.cond rfl (fun hc133 => ?_) (fun hc133 => ?_)
            · replace H := brT hc133 H
              refine RW.region ?_
              refine q (v := .bool b107) rfl (X_move rfl) ?_
              refine q (v := .bool b107) rfl (X_move rfl) ?_
              refine RL.gopd (v := .slice A1_ p1.length c1_) 43 rfl rfl rfl rfl (fun hg => (X_move rfl)) rfl rfl ?_
              refine RL.gopd (v := .slice A2 x1.length c3) 44 rfl rfl rfl rfl (fun hg => (X_move rfl)) rfl rfl ?_
              refine RL.gopd (v := .int .i64 i53) 45 rfl rfl rfl rfl (fun hg => (X_move rfl)) rfl rfl ?_
              refine RL.gopd (v := .pointer (ea A2 (i53.toNat * 1))) 46 rfl rfl rfl rfl (fun hg => (X_indexAddrE Try.underlying27 Try.inf3 (gb_on hg) (gb_on hg) (idx_inr hx100) hA101)) rfl rfl ?_
              refine RL.gopd (v := .int .i64 x100) 47 rfl rfl rfl rfl (fun hg => (X_loadE Try.underlying3 rfl (gb_on hg) (el_rd (eInt_ok .i64) (hM.ownsl 1 rfl).1 hx100 (j := 0) rfl))) rfl rfl ?_
              obtain ⟨x134, hx134, H⟩ := bnd_out H
              refine RL.gcallp (Rv := fun v _ => v = .bool x134) rfl rfl rfl rfl ⟨rfl, rfl⟩ (fun hg => (X_callF Try.en26 (congrArg List.toArray (ac (gb_on (q := b107 == true) (v := .slice A1_ p1.length c1_) hg) (ac (gb_on (q := b107 == true) (v := .int .i64 x100) hg) rfl))))) (fun hg => ref09_Has_any _ A1_ c1_ p1 x100 (hM.sl 2 rfl) (gI_out hx134 hg)) ?_
              rintro vw135 w135 hv hK
              rw [gb_to (v' := .bool x134) hv]
              replace hM := hM.keep hK
              refine RL.gopd (v := .bool (!x134)) 49 rfl rfl rfl rfl (fun hg => (X_not (gb_on hg))) rfl rfl ?_
              refine q (v := .bool (bif b107 then !x134 else false)) rfl (X_pickB rfl (fun h => gbT h) (fun _ => rfl)) ?_
              refine q (v := .bool (bif b107 then !x134 else false)) rfl (X_assign rfl) ?_
              refine RL.nil ?_
              exact ⟨bif b107 then !x134 else false, rfl, rfl, rfl, rfl, rfl, rfl, rfl, hM.sel [0, 1, 2, 3] rfl rfl, H⟩
            · replace H := brF hc133 H
              refine RW.skip ?_
              exact ⟨b107, rfl, rfl, rfl, rfl, rfl, rfl, rfl, hM.sel [0, 1, 2, 3] rfl rfl, H⟩
          · rintro φ w113 ⟨b112, h_0, h_1, h_2, h_7, h_8, h_9, h_10, hM, H⟩
            obtain ⟨φ0, rfl⟩ : ∃ φ0, φ = upd (upd (upd (upd (upd (upd (upd φ0 0 (.slice A0_ p0.length c0_)) 1 (.slice A1_ p1.length c1_)) 2 (.int .i64 p2)) 7 (.slice A2 x1.length c3)) 8 (.slice A50 l52.length c51)) 9 (.int .i64 i53)) 10 (.bool b112) := ⟨φ, by rw [upd_of h_0, upd_of h_1, upd_of h_2, upd_of h_7, upd_of h_8, upd_of h_9, upd_of h_10]⟩
            clear h_0 h_1 h_2 h_7 h_8 h_9 h_10
            refine RW.seq ?_
            refine RW.seq ?_
            refine RW.region ?_
            refine q (v := .bool b112) rfl (X_move rfl) ?_
            refine q (v := .bool (!b112)) rfl (X_not rfl) ?_
            refine RL.nil ?_
            refine RW.cond rfl (fun hc114 => ?_) (fun hc114 => ?_)
            · replace H := brT hc114 H
              refine RW.exit ?_
              refine RW.region ?_
              refine q (v := .int .i64 i53) rfl (X_move rfl) ?_
              refine q (v := .int .i64 (w64 (i53 + 1))) rfl (X_addw rfl rfl) ?_
              refine q (v := .int .i64 (w64 (i53 + 1))) rfl (X_assign rfl) ?_
              refine RL.nil ?_
              exact ⟨gk1, Nat.lt_succ_self _, A50, c51, l52, w64 (i53 + 1), rfl, rfl, rfl, rfl, rfl, rfl, hM.sel [0, 1, 2, 3] rfl rfl, H⟩
            · replace H := brF hc114 H
              refine RW.skip ?_
              refine RW.seq ?_
              refine RW.region ?_
              refine q (v := .slice A50 l52.length c51) rfl (X_move rfl) ?_
              refine q (v := .int .i64 (l52.length : Int)) rfl (X_lenE (l := l52) Try.underlying75 rfl) ?_
              refine q (v := .int .i64 (l52.length : Int)) rfl (X_assign rfl) ?_
              refine RL.nil ?_
              refine RW.seq ?_
              refine RW.drawK Try.mixed (fun w115 hw hcl hS => ?_)
              have hM := hM.keep (show Keeps none_ w113 w115 by rw [hw]; exact Keeps.drew _ _)
              clear hw
              have hR13 := hM
              have hKr := Keeps.refl none_ w115
              refine RD.takesK (by kernel_rfl) [0, 1, 2, 3, 4, 5, 6, 7, 8, 9, 10, 11, 12, 13, 14] 0 rfl (by kernel_rfl) hcl hS ?_
              refine RQ.opd 55 rfl rfl rfl (Yld.plain (v := .int .i64 (l52.length : Int)) rfl (fun _ _ => (X_move rfl))) ?_
              refine RQ.opd 56 rfl rfl rfl (Yld.plain (v := .bool (decide ((0 : Int) < (l52.length : Int)))) rfl (fun _ _ => (X_gtr rfl rfl))) ?_
              refine RQ.opd 57 rfl rfl rfl (Yld.plain (v := .bool (decide ((0 : Int) < (l52.length : Int)))) rfl (fun _ _ => (X_move rfl))) ?_
              refine RQ.opd 58 rfl rfl rfl (Yld.guard (v := .slice A50 l52.length c51) rfl rfl rfl rfl (fun hg _ _ => (X_move rfl))) ?_
              refine RQ.opd 59 rfl rfl rfl (Yld.guard (v := .int .i64 (l52.length : Int)) rfl rfl rfl rfl (fun hg _ _ => (X_move rfl))) ?_
              refine RQ.opd 60 rfl rfl rfl (Yld.guard (v := .int .i64 (w64 ((l52.length : Int) - 1))) rfl rfl rfl rfl (fun hg _ _ => (X_subw (gb_on hg) rfl))) ?_
              obtain ⟨x116, hx116, H⟩ := bnd_out H
              refine RQ.opd 61 rfl rfl rfl (Yld.guard (v := .pointer (ea A50 ((w64 ((l52.length : Int) - 1)).toNat * 2))) rfl rfl rfl rfl (fun hg _ _ => (X_indexAddrE Try.underlying75 Try.inf64 (gb_on hg) (gb_on hg) (idx_inr (gI_out hx116 hg)) (el_isA Span.ok (hR13.ownsl 0 rfl).1 (gI_out hx116 hg))))) ?_
              refine RQ.opd 62 rfl rfl rfl (Yld.guard (v := .pointer (ea A50 ((w64 ((l52.length : Int) - 1)).toNat * 2 + 1))) rfl rfl rfl rfl (fun hg _ _ => (X_fieldAddrE Try.underlying64 rfl Try.inf3 (gb_on hg) (el_isA Span.ok (hR13.ownsl 0 rfl).1 (gI_out hx116 hg)) rfl))) ?_
              refine RQ.opd 63 rfl rfl rfl (Yld.gK (v := .int .i64 x116.To) rfl rfl rfl rfl (fun hg _ hk => (X_loadE Try.underlying3 rfl (gb_on hg) (el_rd Span.ok ((hR13.keep hk).ownsl 0 rfl).1 (gI_out hx116 hg) (j := 1) rfl)))) ?_
              refine RQ.opd 64 rfl rfl rfl (Yld.guard (v := .slice A2 x1.length c3) rfl rfl rfl rfl (fun hg _ _ => (X_move rfl))) ?_
              refine RQ.opd 65 rfl rfl rfl (Yld.guard (v := .int .i64 i53) rfl rfl rfl rfl (fun hg _ _ => (X_move rfl))) ?_
              refine RQ.opd 66 rfl rfl rfl (Yld.guard (v := .pointer (ea A2 (i53.toNat * 1))) rfl rfl rfl rfl (fun hg _ _ => (X_indexAddrE Try.underlying27 Try.inf3 (gb_on hg) (gb_on hg) (idx_inr hx100) hA101))) ?_
              refine RQ.opd 67 rfl rfl rfl (Yld.gK (v := .int .i64 x100) rfl rfl rfl rfl (fun hg _ hk => (X_loadE Try.underlying3 rfl (gb_on hg) (el_rd (eInt_ok .i64) ((hR13.keep hk).ownsl 1 rfl).1 hx100 (j := 0) rfl)))) ?_
              refine RQ.opd 68 rfl rfl rfl (Yld.guard (v := .bool (decide (x116.To = x100))) rfl rfl rfl rfl (fun hg _ _ => (X_eql (gb_on hg) (gb_on hg)))) ?_
              refine RQ.opd 69 rfl rfl rfl (Yld.plain (v := .bool (bif decide ((0 : Int) < (l52.length : Int)) then decide (x116.To = x100) else false)) rfl (fun _ _ => (X_pickB rfl (fun h => gbT h) (fun _ => rfl)))) ?_
              refine RQ.nil ?_
              clear hcl hS
              intro hcl hS
              refine RD.done (by kernel_rfl) hcl hS ?_
              refine RW.cond rfl (fun hc117 => ?_) (fun hc117 => ?_)
              · replace H := brT hc117 H
                refine RW.region ?_
                refine q (v := .slice A50 l52.length c51) rfl (X_move rfl) ?_
                refine q (v := .int .i64 (l52.length : Int)) rfl (X_move rfl) ?_
                refine q (v := .int .i64 (w64 ((l52.length : Int) - 1))) rfl (X_subw rfl rfl) ?_
                refine q (v := .slice A2 x1.length c3) rfl (X_move rfl) ?_
                refine q (v := .int .i64 i53) rfl (X_move rfl) ?_
                refine q (v := .int .i64 (w64 (i53 + 1))) rfl (X_addw rfl rfl) ?_
                obtain ⟨x118, hx118, H⟩ := bnd_out H
                have hA119 := el_isA (eInt_ok .i64) (hM.ownsl 1 rfl).1 hx118
                refine q (v := .pointer (ea A2 ((w64 (i53 + 1)).toNat * 1))) rfl (X_indexAddrE Try.underlying27 Try.inf3 rfl rfl (idx_inr hx118) hA119) ?_
                refine q (v := .int .i64 x118) rfl (X_loadE Try.underlying3 rfl rfl (el_rd (eInt_ok .i64) (hM.ownsl 1 rfl).1 hx118 (j := 0) rfl)) ?_
                obtain ⟨x120, hx120, H⟩ := bnd_out H
                have hA121 := el_isA Span.ok (hM.ownsl 0 rfl).1 hx120
                refine q (v := .pointer (ea A50 ((w64 ((l52.length : Int) - 1)).toNat * 2))) rfl (X_indexAddrE Try.underlying75 Try.inf64 rfl rfl (idx_inr hx120) hA121) ?_
                refine q (v := .pointer (ea A50 ((w64 ((l52.length : Int) - 1)).toNat * 2 + 1))) rfl (X_fieldAddrE Try.underlying64 rfl Try.inf3 rfl hA121 rfl) ?_
                refine RL.exs rfl (S_storeE hM 0 (k := 1) (Span.mk x120.From x118) [.int .i64 x118] rfl Span.ok hx120 Try.inf3 rfl rfl rfl rfl rfl rfl rfl) rfl ?_
                rintro w122 ⟨hM, hK⟩
                refine RL.nil ?_
                refine RW.region ?_
                refine q (v := .int .i64 i53) rfl (X_move rfl) ?_
                refine q (v := .int .i64 (w64 (i53 + 1))) rfl (X_addw rfl rfl) ?_
                refine q (v := .int .i64 (w64 (i53 + 1))) rfl (X_assign rfl) ?_
                refine RL.nil ?_
                exact ⟨gk1, Nat.lt_succ_self _, A50, c51, (l52.set ((w64 ((l52.length : Int) - 1)).toNat) (Span.mk x120.From x118)), w64 (i53 + 1), rfl, rfl, rfl, rfl, (slen (show Value.slice A50 l52.length c51 = _ from rfl) (by simp only [List.length_set])), rfl, hM.sel [0, 1, 2, 3] rfl rfl, H⟩
              · replace H := brF hc117 H
                refine RW.drawKU 12 Try.mixed (fun w123 hw hcl hS => ?_)
                have hM := hM.keep (show Keeps none_ w115 w123 by rw [hw]; exact Keeps.drew _ _)
                clear hw
                have hR15 := hM
                have hKr := Keeps.refl none_ w123
                refine RD.takesKU (by kernel_rfl) [0, 1, 2, 3, 4, 5, 6, 7, 8, 9, 10] 3 rfl (by kernel_rfl) rfl hcl hS ?_
                refine RQ.opd 80 rfl rfl rfl (Yld.plain (v := .slice A50 l52.length c51) rfl (fun _ _ => (X_move rfl))) ?_
                refine RQ.opd 81 rfl rfl rfl (Yld.plain (v := .slice A2 x1.length c3) rfl (fun _ _ => (X_move rfl))) ?_
                refine RQ.opd 82 rfl rfl rfl (Yld.plain (v := .int .i64 i53) rfl (fun _ _ => (X_move rfl))) ?_
                refine RQ.opd 83 rfl rfl rfl (Yld.plain (v := .pointer (ea A2 (i53.toNat * 1))) rfl (fun _ _ => (X_indexAddrE Try.underlying27 Try.inf3 rfl rfl (idx_inr hx100) hA101))) ?_
                refine RQ.opd 84 rfl rfl rfl (Yld.KU (v := .int .i64 x100) 14 rfl (by kernel_rfl) (fun _ hk => (X_loadE Try.underlying3 rfl rfl (el_rd (eInt_ok .i64) ((hR15.keep hk).ownsl 1 rfl).1 hx100 (j := 0) rfl)))) ?_
                refine RQ.opd 85 rfl rfl rfl (Yld.plain (v := .slice A2 x1.length c3) rfl (fun _ _ => (X_move rfl))) ?_
                refine RQ.opd 86 rfl rfl rfl (Yld.plain (v := .int .i64 i53) rfl (fun _ _ => (X_move rfl))) ?_
                refine RQ.opd 87 rfl rfl rfl (Yld.plain (v := .int .i64 (w64 (i53 + 1))) rfl (fun _ _ => (X_addw rfl rfl))) ?_
                obtain ⟨x124, hx124, H⟩ := bnd_out H
                have hA125 := el_isA (eInt_ok .i64) (hR15.ownsl 1 rfl).1 hx124
                refine RQ.opd 88 rfl rfl rfl (Yld.plain (v := .pointer (ea A2 ((w64 (i53 + 1)).toNat * 1))) rfl (fun _ _ => (X_indexAddrE Try.underlying27 Try.inf3 rfl rfl (idx_inr hx124) hA125))) ?_
                refine RQ.opd 89 rfl rfl rfl (Yld.KU (v := .int .i64 x124) 14 rfl (by kernel_rfl) (fun _ hk => (X_loadE Try.underlying3 rfl rfl (el_rd (eInt_ok .i64) ((hR15.keep hk).ownsl 1 rfl).1 hx124 (j := 0) rfl)))) ?_
                refine RQ.opd 90 rfl rfl rfl (Yld.plain (v := .agg #[.int .i64 x100, .int .i64 x124]) rfl (fun _ _ => (X_build (cells := #[.int .i64 x100, .int .i64 x124]) (by simp only [List.map]; kernel_rfl)))) ?_
                refine RQ.nil ?_
                clear hcl hS
                intro hcl hS
                refine RD.one (i := 11) rfl (by kernel_rfl) hcl hS ?_
                refine RS.ex (by kernel_rfl) hcl rfl rfl (S_lit1 hM Span.E Span.ok (Span.mk x100 x124) Try.underlying75 Try.inf64 rfl rfl rfl rfl) ⟨rfl, rfl⟩ ?_
                rintro _ w126 ⟨A127, c128, rfl, hM, hK⟩
                refine ⟨SKU.next rfl hS hK, ?_⟩
                clear hcl hS
                intro hcl hS
                replace hKr := hKr.trans hK
                refine RD.one (i := 12) rfl (by kernel_rfl) hcl hS ?_
                obtain ⟨hk130, H⟩ := chk_out H
                refine RS.ex (by kernel_rfl) hcl rfl rfl (S_append (l := l52) (ys := [(Span.mk x100 x124)]) hM 1 rfl Span.ok Try.underlying75 Try.inf64 rfl rfl rfl rfl (hM.ownsl 0 rfl) hk130) ⟨rfl, rfl⟩ ?_
                rintro _ w129 ⟨A131, c132, rfl, hM, hK⟩
                refine ⟨SKU.now hcl rfl, ?_⟩
                clear hcl hS
                intro hcl hS
                refine RD.takesKU (by kernel_rfl) [13] 0 rfl (by kernel_rfl) rfl hcl hS ?_
                refine RQ.opd 8 rfl rfl rfl (Yld.plain (v := .slice A131 ((l52 ++ ([(Span.mk x100 x124)])).length) c132) rfl (fun _ _ => (X_assign rfl))) ?_
                refine RQ.nil ?_
                clear hcl hS
                intro hcl hS
                refine RD.done (by kernel_rfl) hcl hS ?_
                refine RW.region ?_
                refine q (v := .int .i64 i53) rfl (X_move rfl) ?_
                refine q (v := .int .i64 (w64 (i53 + 1))) rfl (X_addw rfl rfl) ?_
                refine q (v := .int .i64 (w64 (i53 + 1))) rfl (X_assign rfl) ?_
                refine RL.nil ?_
                exact ⟨gk1, Nat.lt_succ_self _, A131, c132, (l52 ++ ([(Span.mk x100 x124)])), w64 (i53 + 1), rfl, rfl, rfl, rfl, rfl, rfl, hM.sel [1, 2, 3, 4] rfl rfl, H⟩
      · replace H := brF hc99 H
        refine RW.exit ?_
        refine RW.seq ?_
        refine RW.region ?_
        refine q (v := .slice A50 l52.length c51) rfl (X_move rfl) ?_
        refine q (v := .slice A50 l52.length c51) rfl (X_assign rfl) ?_
        refine RL.nil ?_
        refine RW.ret ?_
        replace H := Option.some.inj H
        subst H
        refine retV1 (.inl rfl) rfl (show RV _ _ _ (.tmp 6) (.slice A50 l52.length c51) from rfl) ?_
        exact ⟨_, rfl, hM.ownR 0 rfl, hM.keeps⟩
set_option maxRecDepth 20000 in
theorem law68_row_any (w : World) (A0_ : Option Addr) (c0_ : Nat) (p0 : List Law68_Op) (p1 : Int) (hs0 : SL w A0_ c0_ p0 Law68_Op.E) {y : List Span} (H : law68_row p0 p1 = some y) :
    Calls Try.prog 24 #[.slice A0_ p0.length c0_, .int .i64 p1] w fun e w' => ∃ v, e = .returned v ∧ OwnR w w' 64 2 Span.E v y ∧ Keeps none_ w w' := by
  unfold law68_row at H
  refine calls_of_RW Try.func24 rfl (Nat.le_of_ble_eq_true rfl) ?_
  have hM := SH.start w
  replace hM := hM.startSL hs0
  refine RW.seq ?_
  refine RW.region ?_
  refine q (v := .slice none 0 0) rfl (X_assign rfl) ?_
  refine RL.nil ?_
  refine RW.seq ?_
  refine RW.region ?_
  refine q (v := .slice none 0 0) rfl (X_assign rfl) ?_
  refine RL.nil ?_
  refine RW.seq ?_
  refine RW.seq ?_
  refine RW.region ?_
  refine q (v := .int .i64 0) rfl (X_assign rfl) ?_
  refine RL.nil ?_
  refine RW.block ?_
  replace hM := hM.addNil 64 2 Span.E
  refine RW.loop (fun gk φ wr => ∃ (A34 : Option Addr) (c35 : Nat) (l36 : List Span) (i37 : Int), φ 0 = .slice A0_ p0.length c0_ ∧ φ 1 = .int .i64 p1 ∧ φ 5 = .slice A34 l36.length c35 ∧ φ 6 = .int .i64 i37 ∧ SH none_ w wr [.own 64 2 A34 c35 l36 Span.E, .sl A0_ c0_ p0 Law68_Op.E] ∧ law68_row_l1 p0 p1 gk l36 i37 = some y) N0 ?_ ?_
  · exact ⟨none, 0, ([] : List Span), 0, rfl, rfl, rfl, rfl, hM.sel [0, 1] rfl rfl, H⟩
  · rintro gk1 φ w71 ⟨A34, c35, l36, i37, h_0, h_1, h_5, h_6, hM, H⟩
    obtain ⟨φ0, rfl⟩ : ∃ φ0, φ = upd (upd (upd (upd φ0 0 (.slice A0_ p0.length c0_)) 1 (.int .i64 p1)) 5 (.slice A34 l36.length c35)) 6 (.int .i64 i37) := ⟨φ, by rw [upd_of h_0, upd_of h_1, upd_of h_5, upd_of h_6]⟩
    clear h_0 h_1 h_5 h_6
    cases gk1 with
    | zero => exact (no_out H).elim
    | succ gk1 =>
      replace H : law68_row_l1_b p0 p1 (law68_row_l1 p0 p1 gk1) l36 i37 = some y := H
      unfold law68_row_l1_b at H
      refine RW.seq ?_
      refine RW.seq ?_
      refine RW.region ?_
      refine q (v := .int .i64 i37) rfl (X_move rfl) ?_
      refine q (v := .slice A0_ p0.length c0_) rfl (X_move rfl) ?_
      refine q (v := .int .i64 (p0.length : Int)) rfl (X_lenE (l := p0) Try.underlying62 rfl) ?_
      refine q (v := .bool (decide (i37 < (p0.length : Int)))) rfl (X_lss rfl rfl) ?_
      refine RL.nil ?_
      refine RW.cond rfl (fun hc72 => ?_) (fun hc72 => ?_)
      · replace H := brT hc72 H
        refine RW.skip ?_
        refine RW.seq ?_
        refine RW.block ?_
        refine RW.seq ?_
        refine RW.seq ?_
        refine RW.region ?_
        refine q (v := .slice A0_ p0.length c0_) rfl (X_move rfl) ?_
        refine q (v := .int .i64 i37) rfl (X_move rfl) ?_
        obtain ⟨x73, hx73, H⟩ := bnd_out H
        have hA74 := el_isA Law68_Op.ok (hM.sl 1 rfl).1 hx73
        refine q (v := .pointer (ea A0_ (i37.toNat * 4))) rfl (X_indexAddrE Try.underlying62 Try.inf72 rfl rfl (idx_inr hx73) hA74) ?_
        refine q (v := .pointer (ea A0_ (i37.toNat * 4 + 1))) rfl (X_fieldAddrE Try.underlying72 rfl Try.inf3 rfl hA74 rfl) ?_
        refine q (v := .int .i64 x73.Car) rfl (X_loadE Try.underlying3 rfl rfl (el_rd Law68_Op.ok (hM.sl 1 rfl).1 hx73 (j := 1) rfl)) ?_
        refine q (v := .int .i64 p1) rfl (X_move rfl) ?_
        refine q (v := .bool (!decide (x73.Car = p1))) rfl (X_neq rfl rfl) ?_
        refine RL.nil ?_
        refine RW.cond rfl (fun hc75 => ?_) (fun hc75 => ?_)
        · replace H := brT hc75 H
          refine RW.exit ?_
          refine RW.region ?_
          refine q (v := .int .i64 i37) rfl (X_move rfl) ?_
          refine q (v := .int .i64 (w64 (i37 + 1))) rfl (X_addw rfl rfl) ?_
          refine q (v := .int .i64 (w64 (i37 + 1))) rfl (X_assign rfl) ?_
          refine RL.nil ?_
          exact ⟨gk1, Nat.lt_succ_self _, A34, c35, l36, w64 (i37 + 1), rfl, rfl, rfl, rfl, hM.sel [0, 1] rfl rfl, H⟩
        · replace H := brF hc75 H
          refine RW.skip ?_
          refine RW.seq ?_
          refine RW.region ?_
          refine q (v := .slice A0_ p0.length c0_) rfl (X_move rfl) ?_
          refine q (v := .int .i64 i37) rfl (X_move rfl) ?_
          refine q (v := .pointer (ea A0_ (i37.toNat * 4))) rfl (X_indexAddrE Try.underlying62 Try.inf72 rfl rfl (idx_inr hx73) hA74) ?_
          refine q (v := .pointer (ea A0_ (i37.toNat * 4 + 2))) rfl (X_fieldAddrE Try.underlying72 rfl Try.inf64 rfl hA74 rfl) ?_
          refine q (v := .agg #[.int .i64 x73.S.From, .int .i64 x73.S.To]) rfl (X_loadAggE [.int .i64 x73.S.From, .int .i64 x73.S.To] Try.underlying64 rfl Try.inf64 rfl hA74 (el_rds Law68_Op.ok (hM.sl 1 rfl).1 hx73 (k := 2) rfl)) ?_
          refine RL.ex rfl (S_lit1 hM Span.E Span.ok x73.S Try.underlying75 Try.inf64 rfl rfl rfl rfl) ⟨rfl, rfl⟩ ?_
          rintro _ w76 ⟨A77, c78, rfl, hM, hK⟩
          refine q (v := .slice A77 ([x73.S]).length c78) rfl (X_assign rfl) ?_
          refine RL.nil ?_
          refine RW.seq ?_
          refine RW.region ?_
          refine q (v := .slice A0_ p0.length c0_) rfl (X_move rfl) ?_
          refine q (v := .int .i64 i37) rfl (X_move rfl) ?_
          refine q (v := .pointer (ea A0_ (i37.toNat * 4))) rfl (X_indexAddrE Try.underlying62 Try.inf72 rfl rfl (idx_inr hx73) hA74) ?_
          refine q (v := .pointer (ea A0_ (i37.toNat * 4))) rfl (X_fieldAddrE Try.underlying72 rfl Try.inf4 rfl hA74 rfl) ?_
          refine q (v := .bool x73.In) rfl (X_loadE Try.underlying4 rfl rfl (el_rd Law68_Op.ok (hM.sl 2 rfl).1 hx73 (j := 0) rfl)) ?_
          refine RL.nil ?_
          refine RW.cond rfl (fun hc79 => ?_) (fun hc79 => ?_)
          · replace H := brT hc79 H
            refine RW.region ?_
            refine q (v := .slice A34 l36.length c35) rfl (X_move rfl) ?_
            refine q (v := .slice A77 ([x73.S]).length c78) rfl (X_move rfl) ?_
            obtain ⟨x80, hx80, H⟩ := bnd_out H
            refine RL.call rfl (X_callF Try.en25 rfl) ⟨rfl, rfl⟩ (ref09_Make_any _ A34 c35 l36 A77 c78 ([x73.S]) 2 (hM.ownsl 1 rfl) (hM.ownsl 0 rfl) hx80) ?_
            rintro _ w84 ⟨_, rfl, hO83, hK⟩
            refine ⟨_, rfl, ?_⟩
            obtain ⟨A81, c82, rfl, hM⟩ := hM.addOwn hK hO83
            refine q (v := .slice A81 x80.length c82) rfl (X_assign rfl) ?_
            refine RL.nil ?_
            refine RW.region ?_
            refine q (v := .int .i64 i37) rfl (X_move rfl) ?_
            refine q (v := .int .i64 (w64 (i37 + 1))) rfl (X_addw rfl rfl) ?_
            refine q (v := .int .i64 (w64 (i37 + 1))) rfl (X_assign rfl) ?_
            refine RL.nil ?_
            exact ⟨gk1, Nat.lt_succ_self _, A81, c82, x80, w64 (i37 + 1), rfl, rfl, rfl, rfl, hM.sel [0, 3] rfl rfl, H⟩
          · replace H := brF hc79 H
            refine RW.region ?_
            refine RL.ex rfl (S_lit0 hM Span.E Span.ok Try.underlying75 Try.inf64) ⟨rfl, rfl⟩ ?_
            rintro _ w85 ⟨A86, c87, rfl, hM, hK⟩
            refine q (v := .slice A34 l36.length c35) rfl (X_move rfl) ?_
            obtain ⟨hk89, H⟩ := chk_out H
            refine RL.ex rfl (S_append (l := ([] : List Span)) (ys := l36) hM 0 rfl Span.ok Try.underlying75 Try.inf64 rfl rfl rfl rfl (hM.ownsl 2 rfl) hk89) ⟨rfl, rfl⟩ ?_
            rintro _ w88 ⟨A90, c91, rfl, hM, hK⟩
            refine q (v := .slice A77 ([x73.S]).length c78) rfl (X_move rfl) ?_
            obtain ⟨hk93, H⟩ := chk_out H
            refine RL.ex rfl (S_append (l := (([] : List Span) ++ l36)) (ys := [x73.S]) hM 0 rfl Span.ok Try.underlying75 Try.inf64 rfl rfl rfl rfl (hM.ownsl 1 rfl) hk93) ⟨rfl, rfl⟩ ?_
            rintro _ w92 ⟨A94, c95, rfl, hM, hK⟩
            obtain ⟨x96, hx96, H⟩ := bnd_out H
            refine RL.call rfl (X_callF Try.en25 rfl) ⟨rfl, rfl⟩ (ref09_Make_any _ A94 c95 ((([] : List Span) ++ l36) ++ ([x73.S])) none 0 [] 0 (hM.ownsl 0 rfl) SL.nil hx96) ?_
            rintro _ w100 ⟨_, rfl, hO99, hK⟩
            refine ⟨_, rfl, ?_⟩
            obtain ⟨A97, c98, rfl, hM⟩ := hM.addOwn hK hO99
            refine q (v := .slice A97 x96.length c98) rfl (X_assign rfl) ?_
            refine RL.nil ?_
            refine RW.region ?_
            refine q (v := .int .i64 i37) rfl (X_move rfl) ?_
            refine q (v := .int .i64 (w64 (i37 + 1))) rfl (X_addw rfl rfl) ?_
            refine q (v := .int .i64 (w64 (i37 + 1))) rfl (X_assign rfl) ?_
            refine RL.nil ?_
            exact ⟨gk1, Nat.lt_succ_self _, A97, c98, x96, w64 (i37 + 1), rfl, rfl, rfl, rfl, hM.sel [0, 4] rfl rfl, H⟩
      · replace H := brF hc72 H
        refine RW.exit ?_
        refine RW.seq ?_
        refine RW.region ?_
        refine q (v := .slice A34 l36.length c35) rfl (X_move rfl) ?_
        refine q (v := .slice A34 l36.length c35) rfl (X_assign rfl) ?_
        refine RL.nil ?_
        refine RW.ret ?_
        replace H := Option.some.inj H
        subst H
        refine retV1 (.inl rfl) rfl (show RV _ _ _ (.tmp 4) (.slice A34 l36.length c35) from rfl) ?_
        exact ⟨_, rfl, hM.ownR 0 rfl, hM.keeps⟩
set_option maxRecDepth 20000 in
theorem clone_Span_any (w : World) (A0_ : Option Addr) (c0_ : Nat) (p0 : List Span) (hs0 : SL w A0_ c0_ p0 Span.E) {y : List Span} (H : clone_Span p0 = some y) :
    Calls Try.prog 83 #[.slice A0_ p0.length c0_] w fun e w' => ∃ v, e = .returned v ∧ OwnR w w' 64 2 Span.E v y ∧ Keeps none_ w w' := by
  unfold clone_Span at H
  refine calls_of_RW Try.func83 rfl (Nat.le_of_ble_eq_true rfl) ?_
  have hM := SH.start w
  replace hM := hM.startSL hs0
  refine RW.seq ?_
  refine RW.region ?_
  refine q (v := .slice none 0 0) rfl (X_assign rfl) ?_
  refine RL.nil ?_
  refine RW.seq ?_
  refine RW.seq ?_
  refine RW.region ?_
  refine q (v := .slice A0_ p0.length c0_) rfl (X_move rfl) ?_
  refine q (v := .bool A0_.isNone) rfl (X_nilS rfl rfl Try.underlying75) ?_
  refine RL.nil ?_
  refine RW.cond rfl (fun hc => ?_) (fun hc => ?_)
  · have hl := SL.none_nil Span.ok (hM.sl 0 rfl) hc
    refine RW.seq ?_
    refine RW.region ?_
    refine q (v := .slice none 0 0) rfl (X_assign rfl) ?_
    refine RL.nil ?_
    refine RW.ret ?_
    obtain ⟨_, H⟩ := chk_out H
    replace H := Option.some.inj H
    subst H
    refine retV1 (.inl rfl) rfl (show RV _ _ _ (.tmp 2) (.slice none 0 0) from rfl) ?_
    exact ⟨_, rfl, by rw [hl]; exact OwnR.nil, hM.keeps⟩
  · skip
    refine RW.skip ?_
    refine RW.seq ?_
    refine RW.region ?_
    refine RL.ex rfl (S_lit0 hM Span.E Span.ok Try.underlying75 Try.inf64) ⟨rfl, rfl⟩ ?_
    rintro _ w2 ⟨A3, c4, rfl, hM, hK⟩
    refine q (v := .slice A0_ p0.length c0_) rfl (X_move rfl) ?_
    obtain ⟨hk6, H⟩ := chk_out H
    refine RL.ex rfl (S_append (l := ([] : List Span)) (ys := p0) hM 0 rfl Span.ok Try.underlying75 Try.inf64 rfl rfl rfl rfl (hM.sl 1 rfl) hk6) ⟨rfl, rfl⟩ ?_
    rintro _ w5 ⟨A7, c8, rfl, hM, hK⟩
    refine q (v := .slice A7 ((([] : List Span) ++ p0).length) c8) rfl (X_assign rfl) ?_
    refine RL.nil ?_
    refine RW.ret ?_
    replace H := Option.some.inj H
    subst H
    refine retV1 (.inl rfl) rfl (show RV _ _ _ (.tmp 2) (.slice A7 ((([] : List Span) ++ p0).length) c8) from rfl) ?_
    exact ⟨_, rfl, hM.ownR 0 rfl, hM.keeps⟩
set_option maxRecDepth 20000 in
theorem equal_Span_any (w : World) (A0_ : Option Addr) (c0_ : Nat) (p0 : List Span) (A1_ : Option Addr) (c1_ : Nat) (p1 : List Span) (hs0 : SL w A0_ c0_ p0 Span.E) (hs1 : SL w A1_ c1_ p1 Span.E) {y : Bool} (H : equal_Span p0 p1 = some y) :
    Calls Try.prog 22 #[.slice A0_ p0.length c0_, .slice A1_ p1.length c1_] w fun e w' => ∃ v, e = .returned v ∧ v = .bool y ∧ Keeps none_ w w' := by
  unfold equal_Span at H
  refine calls_of_RW Try.func22 rfl (Nat.le_of_ble_eq_true rfl) ?_
  have hM := SH.start w
  replace hM := hM.startSL hs0
  replace hM := hM.startSL hs1
  refine RW.seq ?_
  refine RW.region ?_
  refine q (v := .bool false) rfl (X_assign rfl) ?_
  refine RL.nil ?_
  refine RW.seq ?_
  refine RW.seq ?_
  refine RW.region ?_
  refine q (v := .slice A0_ p0.length c0_) rfl (X_move rfl) ?_
  refine q (v := .int .i64 (p0.length : Int)) rfl (X_lenE (l := p0) Try.underlying75 rfl) ?_
  refine q (v := .slice A1_ p1.length c1_) rfl (X_move rfl) ?_
  refine q (v := .int .i64 (p1.length : Int)) rfl (X_lenE (l := p1) Try.underlying75 rfl) ?_
  refine q (v := .bool (!decide ((p0.length : Int) = (p1.length : Int)))) rfl (X_neq rfl rfl) ?_
  refine RL.nil ?_
  refine RW.cond rfl (fun hc1 => ?_) (fun hc1 => ?_)
  · replace H := brT hc1 H
    refine RW.seq ?_
    refine RW.region ?_
    refine q (v := .bool false) rfl (X_assign rfl) ?_
    refine RL.nil ?_
    refine RW.ret ?_
    replace H := Option.some.inj H
    subst H
    refine retV1 (.inl rfl) rfl (show RV _ _ _ (.tmp 4) (.bool false) from rfl) ?_
    exact ⟨_, rfl, rfl, hM.keeps⟩
  · replace H := brF hc1 H
    refine RW.skip ?_
    refine RW.seq ?_
    refine RW.seq ?_
    refine RW.region ?_
    refine q (v := .slice A0_ p0.length c0_) rfl (X_move rfl) ?_
    refine q (v := .int .i64 (p0.length : Int)) rfl (X_lenE (l := p0) Try.underlying75 rfl) ?_
    refine q (v := .int .i64 0) rfl (X_move rfl) ?_
    refine RL.nil ?_
    refine RW.block ?_
    refine RW.loop (fun gk φ wr => ∃ (i10 : Int), φ 0 = .slice A0_ p0.length c0_ ∧ φ 1 = .slice A1_ p1.length c1_ ∧ φ 12 = .int .i64 (p0.length : Int) ∧ φ 13 = .int .i64 i10 ∧ SH none_ w wr [.sl A1_ c1_ p1 Span.E, .sl A0_ c0_ p0 Span.E] ∧ equal_Span_l1 p0 p1 gk i10 = some y) N0 ?_ ?_
    · exact ⟨0, rfl, rfl, rfl, rfl, hM.sel [0, 1] rfl rfl, H⟩
    · rintro gk1 φ w19 ⟨i10, h_0, h_1, h_12, h_13, hM, H⟩
      obtain ⟨φ0, rfl⟩ : ∃ φ0, φ = upd (upd (upd (upd φ0 0 (.slice A0_ p0.length c0_)) 1 (.slice A1_ p1.length c1_)) 12 (.int .i64 (p0.length : Int))) 13 (.int .i64 i10) := ⟨φ, by rw [upd_of h_0, upd_of h_1, upd_of h_12, upd_of h_13]⟩
      clear h_0 h_1 h_12 h_13
      cases gk1 with
      | zero => exact (no_out H).elim
      | succ gk1 =>
        replace H : equal_Span_l1_b p0 p1 (equal_Span_l1 p0 p1 gk1) i10 = some y := H
        unfold equal_Span_l1_b at H
        refine RW.seq ?_
        refine RW.region ?_
        refine q (v := .bool (decide (i10 < (p0.length : Int)))) rfl (X_lss rfl rfl) ?_
        refine RL.nil ?_
        refine RW.seq ?_
        refine RW.cond rfl (fun hc20 => ?_) (fun hc20 => ?_)
        · replace H := brT hc20 H
          refine RW.skip ?_
          refine RW.seq ?_
          refine RW.block ?_
          refine RW.seq ?_
          refine RW.region ?_
          refine q (v := .int .i64 i10) rfl (X_move rfl) ?_
          refine q (v := .int .i64 i10) rfl (X_assign rfl) ?_
          refine RL.nil ?_
          refine RW.seq ?_
          refine RW.drawK Try.mixed (fun w21 hw hcl hS => ?_)
          have hM := hM.keep (show Keeps none_ w19 w21 by rw [hw]; exact Keeps.drew _ _)
          clear hw
          have hR6 := hM
          have hKr := Keeps.refl none_ w21
          refine RD.takesK (by kernel_rfl) [0, 1, 2, 3, 4, 5, 6, 7, 8] 0 rfl (by kernel_rfl) hcl hS ?_
          refine RQ.opd 16 rfl rfl rfl (Yld.plain (v := .slice A0_ p0.length c0_) rfl (fun _ _ => (X_move rfl))) ?_
          refine RQ.opd 17 rfl rfl rfl (Yld.plain (v := .int .i64 i10) rfl (fun _ _ => (X_move rfl))) ?_
          obtain ⟨x22, hx22, H⟩ := bnd_out H
          have hA23 := el_isA Span.ok (hR6.sl 1 rfl).1 hx22
          refine RQ.opd 18 rfl rfl rfl (Yld.plain (v := .pointer (ea A0_ (i10.toNat * 2))) rfl (fun _ _ => (X_indexAddrE Try.underlying75 Try.inf64 rfl rfl (idx_inr hx22) hA23))) ?_
          refine RQ.opd 19 rfl rfl rfl (Yld.K (v := .agg #[.int .i64 x22.From, .int .i64 x22.To]) rfl (fun _ hk => (X_loadAggE [.int .i64 x22.From, .int .i64 x22.To] Try.underlying64 rfl Try.inf64 rfl hA23 (el_rds Span.ok ((hR6.keep hk).sl 1 rfl).1 hx22 (k := 0) rfl)))) ?_
          refine RQ.opd 20 rfl rfl rfl (Yld.plain (v := .slice A1_ p1.length c1_) rfl (fun _ _ => (X_move rfl))) ?_
          refine RQ.opd 21 rfl rfl rfl (Yld.plain (v := .int .i64 i10) rfl (fun _ _ => (X_move rfl))) ?_
          obtain ⟨x24, hx24, H⟩ := bnd_out H
          have hA25 := el_isA Span.ok (hR6.sl 0 rfl).1 hx24
          refine RQ.opd 22 rfl rfl rfl (Yld.plain (v := .pointer (ea A1_ (i10.toNat * 2))) rfl (fun _ _ => (X_indexAddrE Try.underlying75 Try.inf64 rfl rfl (idx_inr hx24) hA25))) ?_
          refine RQ.opd 23 rfl rfl rfl (Yld.K (v := .agg #[.int .i64 x24.From, .int .i64 x24.To]) rfl (fun _ hk => (X_loadAggE [.int .i64 x24.From, .int .i64 x24.To] Try.underlying64 rfl Try.inf64 rfl hA25 (el_rds Span.ok ((hR6.keep hk).sl 0 rfl).1 hx24 (k := 0) rfl)))) ?_
          refine RQ.opd 24 rfl rfl rfl (Yld.plain (v := .bool (!decide (x22 = x24))) rfl (fun _ _ => (X_neqQ Try.eq64 Try.eqg64 x22 x24 rfl rfl))) ?_
          refine RQ.nil ?_
          clear hcl hS
          intro hcl hS
          refine RD.done (by kernel_rfl) hcl hS ?_
          refine RW.cond rfl (fun hc26 => ?_) (fun hc26 => ?_)
          · replace H := brT hc26 H
            refine RW.seq ?_
            refine RW.region ?_
            refine q (v := .bool false) rfl (X_assign rfl) ?_
            refine RL.nil ?_
            refine RW.ret ?_
            replace H := Option.some.inj H
            subst H
            refine retV1 (.inl rfl) rfl (show RV _ _ _ (.tmp 4) (.bool false) from rfl) ?_
            exact ⟨_, rfl, rfl, hM.keeps⟩
          · replace H := brF hc26 H
            refine RW.skip ?_
            refine RW.region ?_
            refine q (v := .int .i64 (w64 (i10 + 1))) rfl (X_addw rfl rfl) ?_
            refine q (v := .int .i64 (w64 (i10 + 1))) rfl (X_move rfl) ?_
            refine RL.nil ?_
            exact ⟨gk1, Nat.lt_succ_self _, w64 (i10 + 1), rfl, rfl, rfl, rfl, hM.sel [0, 1] rfl rfl, H⟩
        · replace H := brF hc20 H
          refine RW.exit ?_
          refine RW.seq ?_
          refine RW.region ?_
          refine q (v := .bool true) rfl (X_assign rfl) ?_
          refine RL.nil ?_
          refine RW.ret ?_
          replace H := Option.some.inj H
          subst H
          refine retV1 (.inl rfl) rfl (show RV _ _ _ (.tmp 4) (.bool true) from rfl) ?_
          exact ⟨_, rfl, rfl, hM.keeps⟩
set_option maxRecDepth 20000 in
theorem span_Has_1_any (w : World) (p0 : Span) (p1 : Int)  {y : Int} (H : span_Has_1 p0 p1 = some y) :
    Calls Try.prog 87 #[.agg #[.int .i64 p0.From, .int .i64 p0.To], .int .i64 p1] w fun e w' => ∃ v, e = .returned v ∧ v = .int .i64 y ∧ Keeps none_ w w' := by
  unfold span_Has_1 at H
  refine calls_of_RW Try.func87 rfl (Nat.le_of_ble_eq_true rfl) ?_
  have hM := SH.start w
  refine RW.seq ?_
  refine RW.region ?_
  refine RL.ex rfl (S_box hM [.int .i64 p0.From, .int .i64 p0.To] rfl rfl) ⟨rfl, rfl⟩ ?_
  rintro _ w1 ⟨B2, rfl, hM, hK⟩
  refine q (v := .int .i64 0) rfl (X_assign rfl) ?_
  refine RL.nil ?_
  refine RW.seq ?_
  refine RW.seq ?_
  refine RW.region ?_
  refine q (v := .pointer (some ⟨B2, 1, none⟩)) rfl (X_fieldAddr Try.underlying64 rfl Try.inf3 rfl rfl) ?_
  refine q (v := .int .i64 p0.To) rfl (X_load Try.underlying3 rfl rfl (at_cell (hM.blk 0 rfl) rfl)) ?_
  refine q (v := .int .i64 p1) rfl (X_move rfl) ?_
  refine q (v := .bool (decide (p0.To ≤ p1))) rfl (X_leq rfl rfl) ?_
  refine RL.nil ?_
  refine RW.cond rfl (fun hc3 => ?_) (fun hc3 => ?_)
  · replace H := brT hc3 H
    refine RW.seq ?_
    refine RW.region ?_
    refine q (v := .int .i64 (-1)) rfl (X_assign rfl) ?_
    refine RL.nil ?_
    refine RW.ret ?_
    replace H := Option.some.inj H
    subst H
    refine retV1 (.inl rfl) rfl (show RV _ _ _ (.tmp 4) (.int .i64 (-1)) from rfl) ?_
    exact ⟨_, rfl, rfl, hM.keeps⟩
  · replace H := brF hc3 H
    refine RW.skip ?_
    refine RW.seq ?_
    refine RW.region ?_
    refine q (v := .int .i64 1) rfl (X_assign rfl) ?_
    refine RL.nil ?_
    refine RW.ret ?_
    replace H := Option.some.inj H
    subst H
    refine retV1 (.inl rfl) rfl (show RV _ _ _ (.tmp 4) (.int .i64 1) from rfl) ?_
    exact ⟨_, rfl, rfl, hM.keeps⟩
set_option maxRecDepth 20000 in
theorem bsearch_Span_any (w : World) (A0_ : Option Addr) (c0_ : Nat) (p0 : List Span) (p1 : Int) (hs0 : SL w A0_ c0_ p0 Span.E) {y : Int × Bool} (H : bsearch_Span p0 p1 = some y) :
    Calls Try.prog 86 #[.slice A0_ p0.length c0_, .int .i64 p1, .func (.func 87) #[] #[]] w fun e w' => ∃ v, e = .returned v ∧ v = .tuple #[.int .i64 y.1, .bool y.2] ∧ Keeps none_ w w' := by
  unfold bsearch_Span at H
  refine calls_of_RW Try.func86 rfl (Nat.le_of_ble_eq_true rfl) ?_
  have hM := SH.start w
  replace hM := hM.startSL hs0
  refine RW.seq ?_
  refine RW.region ?_
  refine q (v := .int .i64 0) rfl (X_assign rfl) ?_
  refine q (v := .bool false) rfl (X_assign rfl) ?_
  refine RL.nil ?_
  refine RW.seq ?_
  refine RW.region ?_
  refine q (v := .slice A0_ p0.length c0_) rfl (X_move rfl) ?_
  refine q (v := .int .i64 (p0.length : Int)) rfl (X_lenE (l := p0) Try.underlying75 rfl) ?_
  refine q (v := .int .i64 (p0.length : Int)) rfl (X_assign rfl) ?_
  refine RL.nil ?_
  refine RW.seq ?_
  refine RW.region ?_
  refine q (v := .int .i64 (p0.length : Int)) rfl (X_move rfl) ?_
  refine q (v := .int .i64 0) rfl (X_assign rfl) ?_
  refine q (v := .int .i64 (p0.length : Int)) rfl (X_assign rfl) ?_
  refine RL.nil ?_
  refine RW.seq ?_
  refine RW.block ?_
  refine RW.loop (fun gk φ wr => ∃ (i9 : Int) (i10 : Int), φ 0 = .slice A0_ p0.length c0_ ∧ φ 1 = .int .i64 p1 ∧ φ 2 = .func (.func 87) #[] #[] ∧ φ 8 = .int .i64 (p0.length : Int) ∧ φ 9 = .int .i64 i9 ∧ φ 10 = .int .i64 i10 ∧ SH none_ w wr [.sl A0_ c0_ p0 Span.E] ∧ bsearch_Span_l1 p0 p1 gk i9 i10 = some y) N0 ?_ ?_
  · exact ⟨0, (p0.length : Int), rfl, rfl, rfl, rfl, rfl, rfl, hM.sel [0] rfl rfl, H⟩
  · rintro gk1 φ w19 ⟨i9, i10, h_0, h_1, h_2, h_8, h_9, h_10, hM, H⟩
    obtain ⟨φ0, rfl⟩ : ∃ φ0, φ = upd (upd (upd (upd (upd (upd φ0 0 (.slice A0_ p0.length c0_)) 1 (.int .i64 p1)) 2 (.func (.func 87) #[] #[])) 8 (.int .i64 (p0.length : Int))) 9 (.int .i64 i9)) 10 (.int .i64 i10) := ⟨φ, by rw [upd_of h_0, upd_of h_1, upd_of h_2, upd_of h_8, upd_of h_9, upd_of h_10]⟩
    clear h_0 h_1 h_2 h_8 h_9 h_10
    cases gk1 with
    | zero => exact (no_out H).elim
    | succ gk1 =>
      replace H : bsearch_Span_l1_b p0 p1 (bsearch_Span_l1 p0 p1 gk1) i9 i10 = some y := H
      unfold bsearch_Span_l1_b at H
      refine RW.seq ?_
      refine RW.seq ?_
      refine RW.region ?_
      refine q (v := .int .i64 i9) rfl (X_move rfl) ?_
      refine q (v := .int .i64 i10) rfl (X_move rfl) ?_
      refine q (v := .bool (decide (i9 < i10))) rfl (X_lss rfl rfl) ?_
      refine RL.nil ?_
      refine RW.cond rfl (fun hc20 => ?_) (fun hc20 => ?_)
      · replace H := brT hc20 H
        refine RW.skip ?_
        refine RW.block ?_
        refine RW.seq ?_
        refine RW.region ?_
        refine q (v := .int .i64 i9) rfl (X_move rfl) ?_
        refine q (v := .int .i64 i10) rfl (X_move rfl) ?_
        refine q (v := .int .i64 (w64 (i9 + i10))) rfl (X_addw rfl rfl) ?_
        refine q (v := .int .u64 (IntKind.u64.wrap (w64 (i9 + i10)))) rfl (X_conv Try.underlying3 Try.underlying185 rfl rfl) ?_
        refine q (v := .int .u64 (shrI .u64 (IntKind.u64.wrap (w64 (i9 + i10))) 1)) rfl (X_shr rfl rfl (by decide) rfl) ?_
        refine q (v := .int .i64 (IntKind.i64.wrap (shrI .u64 (IntKind.u64.wrap (w64 (i9 + i10))) 1))) rfl (X_conv Try.underlying185 Try.underlying3 rfl rfl) ?_
        refine q (v := .int .i64 (IntKind.i64.wrap (shrI .u64 (IntKind.u64.wrap (w64 (i9 + i10))) 1))) rfl (X_assign rfl) ?_
        refine RL.nil ?_
        refine RW.seq ?_
        refine RW.region ?_
        refine q (v := .func (.func 87) #[] #[]) rfl (X_move rfl) ?_
        refine q (v := .slice A0_ p0.length c0_) rfl (X_move rfl) ?_
        refine q (v := .int .i64 (IntKind.i64.wrap (shrI .u64 (IntKind.u64.wrap (w64 (i9 + i10))) 1))) rfl (X_move rfl) ?_
        obtain ⟨x21, hx21, H⟩ := bnd_out H
        have hA22 := el_isA Span.ok (hM.sl 0 rfl).1 hx21
        refine q (v := .pointer (ea A0_ ((IntKind.i64.wrap (shrI .u64 (IntKind.u64.wrap (w64 (i9 + i10))) 1)).toNat * 2))) rfl (X_indexAddrE Try.underlying75 Try.inf64 rfl rfl (idx_inr hx21) hA22) ?_
        refine q (v := .agg #[.int .i64 x21.From, .int .i64 x21.To]) rfl (X_loadAggE [.int .i64 x21.From, .int .i64 x21.To] Try.underlying64 rfl Try.inf64 rfl hA22 (el_rds Span.ok (hM.sl 0 rfl).1 hx21 (k := 0) rfl)) ?_
        refine q (v := .int .i64 p1) rfl (X_move rfl) ?_
        obtain ⟨x23, hx23, H⟩ := bnd_out H
        refine RL.call rfl (X_callC rfl Try.en87 rfl) ⟨rfl, rfl⟩ (span_Has_1_any _ x21 p1 hx23) ?_
        rintro _ w24 ⟨_, rfl, rfl, hK⟩
        refine ⟨_, rfl, ?_⟩
        replace hM := hM.keep hK
        refine q (v := .bool (decide (x23 < 0))) rfl (X_lss rfl rfl) ?_
        refine RL.nil ?_
        refine RW.cond rfl (fun hc25 => ?_) (fun hc25 => ?_)
        · replace H := brT hc25 H
          refine RW.region ?_
          refine q (v := .int .i64 (IntKind.i64.wrap (shrI .u64 (IntKind.u64.wrap (w64 (i9 + i10))) 1))) rfl (X_move rfl) ?_
          refine q (v := .int .i64 (w64 ((IntKind.i64.wrap (shrI .u64 (IntKind.u64.wrap (w64 (i9 + i10))) 1)) + 1))) rfl (X_addw rfl rfl) ?_
          refine q (v := .int .i64 (w64 ((IntKind.i64.wrap (shrI .u64 (IntKind.u64.wrap (w64 (i9 + i10))) 1)) + 1))) rfl (X_assign rfl) ?_
          refine RL.nil ?_
          exact ⟨gk1, Nat.lt_succ_self _, w64 ((IntKind.i64.wrap (shrI .u64 (IntKind.u64.wrap (w64 (i9 + i10))) 1)) + 1), i10, rfl, rfl, rfl, rfl, rfl, rfl, hM.sel [0] rfl rfl, H⟩
        · replace H := brF hc25 H
          refine RW.region ?_
          refine q (v := .int .i64 (IntKind.i64.wrap (shrI .u64 (IntKind.u64.wrap (w64 (i9 + i10))) 1))) rfl (X_move rfl) ?_
          refine q (v := .int .i64 (IntKind.i64.wrap (shrI .u64 (IntKind.u64.wrap (w64 (i9 + i10))) 1))) rfl (X_assign rfl) ?_
          refine RL.nil ?_
          exact ⟨gk1, Nat.lt_succ_self _, i9, IntKind.i64.wrap (shrI .u64 (IntKind.u64.wrap (w64 (i9 + i10))) 1), rfl, rfl, rfl, rfl, rfl, rfl, hM.sel [0] rfl rfl, H⟩
      · replace H := brF hc20 H
        refine RW.exit ?_
        refine RW.seq ?_
        refine RW.region ?_
        refine q (v := .int .i64 i9) rfl (X_move rfl) ?_
        refine q (v := .int .i64 i9) rfl (X_move rfl) ?_
        refine q (v := .int .i64 (p0.length : Int)) rfl (X_move rfl) ?_
        refine q (v := .bool (decide (i9 < (p0.length : Int)))) rfl (X_lss rfl rfl) ?_
        refine q (v := .bool (decide (i9 < (p0.length : Int)))) rfl (X_move rfl) ?_
        refine RL.gopd (v := .func (.func 87) #[] #[]) 40 rfl rfl rfl rfl (fun hg => (X_move rfl)) rfl rfl ?_
        refine RL.gopd (v := .slice A0_ p0.length c0_) 41 rfl rfl rfl rfl (fun hg => (X_move rfl)) rfl rfl ?_
        refine RL.gopd (v := .int .i64 i9) 42 rfl rfl rfl rfl (fun hg => (X_move rfl)) rfl rfl ?_
        obtain ⟨x26, hx26, H⟩ := bnd_out H
        refine RL.gopd (v := .pointer (ea A0_ (i9.toNat * 2))) 43 rfl rfl rfl rfl (fun hg => (X_indexAddrE Try.underlying75 Try.inf64 (gb_on hg) (gb_on hg) (idx_inr (gI_out hx26 hg)) (el_isA Span.ok (hM.sl 0 rfl).1 (gI_out hx26 hg)))) rfl rfl ?_
        refine RL.gopd (v := .agg #[.int .i64 x26.From, .int .i64 x26.To]) 44 rfl rfl rfl rfl (fun hg => (X_loadAggE [.int .i64 x26.From, .int .i64 x26.To] Try.underlying64 rfl Try.inf64 (gb_on hg) (el_isA Span.ok (hM.sl 0 rfl).1 (gI_out hx26 hg)) (el_rds Span.ok (hM.sl 0 rfl).1 (gI_out hx26 hg) (k := 0) rfl))) rfl rfl ?_
        refine RL.gopd (v := .int .i64 p1) 45 rfl rfl rfl rfl (fun hg => (X_move rfl)) rfl rfl ?_
        obtain ⟨x27, hx27, H⟩ := bnd_out H
        refine RL.gcallp (Rv := fun v _ => v = .int .i64 x27) rfl rfl rfl rfl ⟨rfl, rfl⟩ (fun hg => (X_callC (by exact (gb_on hg)) Try.en87 (ac2 (ac (gb_on (q := (decide (i9 < (p0.length : Int))) == true) (v := .agg #[.int .i64 x26.From, .int .i64 x26.To]) hg) (ac (gb_on (q := (decide (i9 < (p0.length : Int))) == true) (v := .int .i64 p1) hg) rfl))))) (fun hg => span_Has_1_any _ x26 p1 (gI_out hx27 hg)) ?_
        rintro vw28 w28 hv hK
        rw [gb_to (v' := .int .i64 x27) hv]
        replace hM := hM.keep hK
        refine RL.gopd (v := .bool (decide (x27 = 0))) 47 rfl rfl rfl rfl (fun hg => (X_eql (gb_on hg) rfl)) rfl rfl ?_
        refine q (v := .bool (bif decide (i9 < (p0.length : Int)) then decide (x27 = 0) else false)) rfl (X_pickB rfl (fun h => gbT h) (fun _ => rfl)) ?_
        refine q (v := .int .i64 i9) rfl (X_assign rfl) ?_
        refine q (v := .bool (bif decide (i9 < (p0.length : Int)) then decide (x27 = 0) else false)) rfl (X_assign rfl) ?_
        refine RL.nil ?_
        refine RW.ret ?_
        replace H := Option.some.inj H
        subst H
        refine retV2 (.inl rfl) rfl (show RV _ _ _ (.tmp 6) (.int .i64 i9) from rfl) (show RV _ _ _ (.tmp 7) (.bool (bif decide (i9 < (p0.length : Int)) then decide (x27 = 0) else false)) from rfl) ?_
        exact ⟨_, rfl, rfl, hM.keeps⟩
set_option maxRecDepth 20000 in
theorem span_Has_any (w : World) (A0_ : Option Addr) (c0_ : Nat) (p0 : List Span) (p1 : Int) (hs0 : SL w A0_ c0_ p0 Span.E) {y : Bool} (H : span_Has p0 p1 = some y) :
    Calls Try.prog 62 #[.slice A0_ p0.length c0_, .int .i64 p1] w fun e w' => ∃ v, e = .returned v ∧ v = .bool y ∧ Keeps none_ w w' := by
  unfold span_Has at H
  refine calls_of_RW Try.func62 rfl (Nat.le_of_ble_eq_true rfl) ?_
  have hM := SH.start w
  replace hM := hM.startSL hs0
  refine RW.seq ?_
  refine RW.region ?_
  refine q (v := .bool false) rfl (X_assign rfl) ?_
  refine RL.nil ?_
  refine RW.seq ?_
  refine RW.region ?_
  refine q (v := .slice A0_ p0.length c0_) rfl (X_move rfl) ?_
  refine q (v := .int .i64 p1) rfl (X_move rfl) ?_
  obtain ⟨x1, hx1, H⟩ := bnd_out H
  refine RL.call rfl (X_callF Try.en86 rfl) ⟨rfl, rfl⟩ (bsearch_Span_any _ A0_ c0_ p0 p1 (hM.sl 0 rfl) hx1) ?_
  rintro _ w2 ⟨_, rfl, rfl, hK⟩
  refine ⟨_, rfl, ?_⟩
  replace hM := hM.keep hK
  refine q (v := .tuple #[.int .i64 x1.1, .bool x1.2]) rfl (X_move rfl) ?_
  refine q (v := .int .i64 x1.1) rfl (X_extract rfl rfl) ?_
  refine q (v := .bool x1.2) rfl (X_extract rfl rfl) ?_
  refine q (v := .int .i64 x1.1) rfl (X_assign rfl) ?_
  refine q (v := .bool x1.2) rfl (X_assign rfl) ?_
  refine RL.nil ?_
  refine RW.seq ?_
  refine RW.region ?_
  refine q (v := .int .i64 x1.1) rfl (X_move rfl) ?_
  refine q (v := .slice A0_ p0.length c0_) rfl (X_move rfl) ?_
  refine q (v := .int .i64 (p0.length : Int)) rfl (X_lenE (l := p0) Try.underlying75 rfl) ?_
  refine q (v := .bool (decide (x1.1 < (p0.length : Int)))) rfl (X_lss rfl rfl) ?_
  refine q (v := .bool (decide (x1.1 < (p0.length : Int)))) rfl (X_move rfl) ?_
  refine RL.gopd (v := .slice A0_ p0.length c0_) 18 rfl rfl rfl rfl (fun hg => (X_move rfl)) rfl rfl ?_
  refine RL.gopd (v := .int .i64 x1.1) 19 rfl rfl rfl rfl (fun hg => (X_move rfl)) rfl rfl ?_
  obtain ⟨x3, hx3, H⟩ := bnd_out H
  refine RL.gopd (v := .pointer (ea A0_ (x1.1.toNat * 2))) 20 rfl rfl rfl rfl (fun hg => (X_indexAddrE Try.underlying75 Try.inf64 (gb_on hg) (gb_on hg) (idx_inr (gI_out hx3 hg)) (el_isA Span.ok (hM.sl 0 rfl).1 (gI_out hx3 hg)))) rfl rfl ?_
  refine RL.gopd (v := .pointer (ea A0_ (x1.1.toNat * 2))) 21 rfl rfl rfl rfl (fun hg => (X_fieldAddrE Try.underlying64 rfl Try.inf3 (gb_on hg) (el_isA Span.ok (hM.sl 0 rfl).1 (gI_out hx3 hg)) rfl)) rfl rfl ?_
  refine RL.gopd (v := .int .i64 x3.From) 22 rfl rfl rfl rfl (fun hg => (X_loadE Try.underlying3 rfl (gb_on hg) (el_rd Span.ok (hM.sl 0 rfl).1 (gI_out hx3 hg) (j := 0) rfl))) rfl rfl ?_
  refine RL.gopd (v := .int .i64 p1) 23 rfl rfl rfl rfl (fun hg => (X_move rfl)) rfl rfl ?_
  refine RL.gopd (v := .bool (decide (x3.From ≤ p1))) 24 rfl rfl rfl rfl (fun hg => (X_leq (gb_on hg) (gb_on hg))) rfl rfl ?_
  refine q (v := .bool (bif decide (x1.1 < (p0.length : Int)) then decide (x3.From ≤ p1) else false)) rfl (X_pickB rfl (fun h => gbT h) (fun _ => rfl)) ?_
  refine q (v := .bool (bif decide (x1.1 < (p0.length : Int)) then decide (x3.From ≤ p1) else false)) rfl (X_assign rfl) ?_
  refine RL.nil ?_
  refine RW.ret ?_
  replace H := Option.some.inj H
  subst H
  refine retV1 (.inl rfl) rfl (show RV _ _ _ (.tmp 4) (.bool (bif decide (x1.1 < (p0.length : Int)) then decide (x3.From ≤ p1) else false)) from rfl) ?_
  exact ⟨_, rfl, rfl, hM.keeps⟩
set_option maxRecDepth 20000 in
theorem rota_Serves_any (w : World) (p0 : Rota_Rota) (B0_ : Nat) (r0_0 : Option Nat) (G0_0 : Nat → Prop) (p1 : Int) (p2 : Int) (hA0 : At w B0_ (.cells [.map r0_0].toArray 70)) (hm0_0 : (Ck.mpr r0_0 G0_0 (Value.int .i64) 64 2 Span.E p0.out none).P w) {y : Bool} (H : rota_Serves p0 p1 p2 = some y) :
    Calls Try.prog 27 #[.pointer (some ⟨B0_, 0, none⟩), .int .i64 p1, .int .i64 p2] w fun e w' => ∃ v, e = .returned v ∧ v = .bool y ∧ Keeps none_ w w' := by
  unfold rota_Serves at H
  refine calls_of_RW Try.func27 rfl (Nat.le_of_ble_eq_true rfl) ?_
  have hM := SH.start w
  replace hM := hM.startRo (c := .blk B0_ [.map r0_0] 70) hA0
  replace hM := hM.startRo hm0_0
  refine RW.seq ?_
  refine RW.region ?_
  refine q (v := .bool false) rfl (X_assign rfl) ?_
  refine RL.nil ?_
  refine RW.seq ?_
  refine RW.region ?_
  refine q (v := .pointer (some ⟨B0_, 0, none⟩)) rfl (X_move rfl) ?_
  refine q (v := .pointer (some ⟨B0_, 0, none⟩)) rfl (X_nilP rfl) ?_
  refine q (v := .pointer (some ⟨B0_, 0, none⟩)) rfl (X_fieldAddr Try.underlying70 rfl Try.inf68 rfl rfl) ?_
  refine q (v := .map r0_0) rfl (X_load Try.underlying68 rfl rfl (at_cell (hM.ro 1 rfl) rfl)) ?_
  refine q (v := .int .i64 p1) rfl (X_move rfl) ?_
  obtain ⟨A1, c2, hT3⟩ := (hM.ro 0 rfl).see p1
  replace hM := hM.see 0 rfl hT3
  refine q (v := .slice A1 (((mget p0.out p1).getD []).length) c2) rfl (X_lookS (KeyT.int Try.underlying3) Try.underlying68 rfl rfl hT3 Try.inf75) ?_
  refine q (v := .int .i64 p2) rfl (X_move rfl) ?_
  obtain ⟨x4, hx4, H⟩ := bnd_out H
  refine RL.call rfl (X_callF Try.en62 rfl) ⟨rfl, rfl⟩ (span_Has_any _ A1 c2 ((mget p0.out p1).getD []) p2 (hM.sl 0 rfl) hx4) ?_
  rintro _ w5 ⟨_, rfl, rfl, hK⟩
  refine ⟨_, rfl, ?_⟩
  replace hM := hM.keep hK
  refine q (v := .bool (!x4)) rfl (X_not rfl) ?_
  refine q (v := .bool (!x4)) rfl (X_assign rfl) ?_
  refine RL.nil ?_
  refine RW.ret ?_
  replace H := Option.some.inj H
  subst H
  refine retV1 (.inl rfl) rfl (show RV _ _ _ (.tmp 6) (.bool (!x4)) from rfl) ?_
  exact ⟨_, rfl, rfl, hM.keeps⟩
set_option maxRecDepth 20000 in
theorem rota_Many_any (w : World) (p0 : Rota_Rota) (B0_ : Nat) (r0_0 : Option Nat) (G0_0 : Nat → Prop) (p1 : Int) (p2 : Int) (hA0 : At w B0_ (.cells [.map r0_0].toArray 70)) (hm0_0 : (Ck.mpr r0_0 G0_0 (Value.int .i64) 64 2 Span.E p0.out none).P w) {y : Int} (H : rota_Many p0 p1 p2 = some y) :
    Calls Try.prog 29 #[.pointer (some ⟨B0_, 0, none⟩), .int .i64 p1, .int .i64 p2] w fun e w' => ∃ v, e = .returned v ∧ v = .int .i64 y ∧ Keeps none_ w w' := by
  unfold rota_Many at H
  refine calls_of_RW Try.func29 rfl (Nat.le_of_ble_eq_true rfl) ?_
  have hM := SH.start w
  replace hM := hM.startRo (c := .blk B0_ [.map r0_0] 70) hA0
  replace hM := hM.startRo hm0_0
  refine RW.seq ?_
  refine RW.region ?_
  refine q (v := .int .i64 0) rfl (X_assign rfl) ?_
  refine RL.nil ?_
  refine RW.seq ?_
  refine RW.region ?_
  refine q (v := .int .i64 0) rfl (X_assign rfl) ?_
  refine RL.nil ?_
  refine RW.seq ?_
  refine RW.seq ?_
  refine RW.region ?_
  refine q (v := .int .i64 p1) rfl (X_move rfl) ?_
  refine q (v := .int .i64 (mn p1 16)) rfl (X_min2 rfl rfl) ?_
  refine q (v := .int .i64 0) rfl (X_move rfl) ?_
  refine RL.nil ?_
  refine RW.block ?_
  refine RW.loop (fun gk φ wr => ∃ (i7 : Int) (i8 : Int), φ 0 = .pointer (some ⟨B0_, 0, none⟩) ∧ φ 2 = .int .i64 p2 ∧ φ 7 = .int .i64 i7 ∧ φ 10 = .int .i64 (mn p1 16) ∧ φ 11 = .int .i64 i8 ∧ SH none_ w wr [.ro (.blk B0_ [.map r0_0] 70), .ro (.mpr r0_0 G0_0 (Value.int .i64) 64 2 Span.E p0.out none)] ∧ rota_Many_l1 p0 p1 p2 gk i7 i8 = some y) N0 ?_ ?_
  · exact ⟨0, 0, rfl, rfl, rfl, rfl, rfl, hM.sel [1, 0] rfl rfl, H⟩
  · rintro gk1 φ w15 ⟨i7, i8, h_0, h_2, h_7, h_10, h_11, hM, H⟩
    obtain ⟨φ0, rfl⟩ : ∃ φ0, φ = upd (upd (upd (upd (upd φ0 0 (.pointer (some ⟨B0_, 0, none⟩))) 2 (.int .i64 p2)) 7 (.int .i64 i7)) 10 (.int .i64 (mn p1 16))) 11 (.int .i64 i8) := ⟨φ, by rw [upd_of h_0, upd_of h_2, upd_of h_7, upd_of h_10, upd_of h_11]⟩
    clear h_0 h_2 h_7 h_10 h_11
    cases gk1 with
    | zero => exact (no_out H).elim
    | succ gk1 =>
      replace H : rota_Many_l1_b p0 p1 p2 (rota_Many_l1 p0 p1 p2 gk1) i7 i8 = some y := H
      unfold rota_Many_l1_b at H
      refine RW.seq ?_
      refine RW.region ?_
      refine q (v := .bool (decide (i8 < (mn p1 16)))) rfl (X_lss rfl rfl) ?_
      refine RL.nil ?_
      refine RW.seq ?_
      refine RW.cond rfl (fun hc16 => ?_) (fun hc16 => ?_)
      · replace H := brT hc16 H
        refine RW.skip ?_
        refine RW.seq ?_
        refine RW.block ?_
        refine RW.seq ?_
        refine RW.region ?_
        refine q (v := .int .i64 i8) rfl (X_move rfl) ?_
        refine q (v := .int .i64 i8) rfl (X_assign rfl) ?_
        refine RL.nil ?_
        refine RW.seq ?_
        refine RW.region ?_
        refine q (v := .pointer (some ⟨B0_, 0, none⟩)) rfl (X_move rfl) ?_
        refine q (v := .int .i64 i8) rfl (X_move rfl) ?_
        refine q (v := .int .i64 p2) rfl (X_move rfl) ?_
        obtain ⟨x17, hx17, H⟩ := bnd_out H
        refine RL.call rfl (X_callF Try.en27 rfl) ⟨rfl, rfl⟩ (rota_Serves_any _ p0 B0_ r0_0 G0_0 i8 p2 (hM.ro 0 rfl) (hM.ro 1 rfl) hx17) ?_
        rintro _ w18 ⟨_, rfl, rfl, hK⟩
        refine ⟨_, rfl, ?_⟩
        replace hM := hM.keep hK
        refine RL.nil ?_
        refine RW.cond rfl (fun hc19 => ?_) (fun hc19 => ?_)
        · replace H := brT hc19 H
          refine RW.region ?_
          refine q (v := .int .i64 i7) rfl (X_move rfl) ?_
          refine q (v := .int .i64 (w64 (i7 + 1))) rfl (X_addw rfl rfl) ?_
          refine q (v := .int .i64 (w64 (i7 + 1))) rfl (X_assign rfl) ?_
          refine RL.nil ?_
          refine RW.region ?_
          refine q (v := .int .i64 (w64 (i8 + 1))) rfl (X_addw rfl rfl) ?_
          refine q (v := .int .i64 (w64 (i8 + 1))) rfl (X_move rfl) ?_
          refine RL.nil ?_
          exact ⟨gk1, Nat.lt_succ_self _, w64 (i7 + 1), w64 (i8 + 1), rfl, rfl, rfl, rfl, rfl, hM.sel [0, 1] rfl rfl, H⟩
        · replace H := brF hc19 H
          refine RW.skip ?_
          refine RW.region ?_
          refine q (v := .int .i64 (w64 (i8 + 1))) rfl (X_addw rfl rfl) ?_
          refine q (v := .int .i64 (w64 (i8 + 1))) rfl (X_move rfl) ?_
          refine RL.nil ?_
          exact ⟨gk1, Nat.lt_succ_self _, i7, w64 (i8 + 1), rfl, rfl, rfl, rfl, rfl, hM.sel [0, 1] rfl rfl, H⟩
      · replace H := brF hc16 H
        refine RW.exit ?_
        refine RW.seq ?_
        refine RW.region ?_
        refine q (v := .int .i64 i7) rfl (X_move rfl) ?_
        refine q (v := .int .i64 i7) rfl (X_assign rfl) ?_
        refine RL.nil ?_
        refine RW.ret ?_
        replace H := Option.some.inj H
        subst H
        refine retV1 (.inl rfl) rfl (show RV _ _ _ (.tmp 6) (.int .i64 i7) from rfl) ?_
        exact ⟨_, rfl, rfl, hM.keeps⟩
set_option maxRecDepth 20000 in
theorem span_Merge_any (w : World) (A0_ : Option Addr) (c0_ : Nat) (p0 : List Span) (hs0 : SL w A0_ c0_ p0 Span.E) {y : List Span} (H : span_Merge p0 = some y) :
    Calls Try.prog 60 #[.slice A0_ p0.length c0_] w fun e w' => ∃ v, e = .returned v ∧ OwnR w w' 64 2 Span.E v y ∧ Keeps none_ w w' := by
  unfold span_Merge at H
  refine calls_of_RW Try.func60 rfl (Nat.le_of_ble_eq_true rfl) ?_
  have hM := SH.start w
  replace hM := hM.startSL hs0
  refine RW.seq ?_
  refine RW.region ?_
  refine q (v := .slice none 0 0) rfl (X_assign rfl) ?_
  refine RL.nil ?_
  refine RW.seq ?_
  refine RW.region ?_
  refine q (v := .slice A0_ p0.length c0_) rfl (X_move rfl) ?_
  obtain ⟨x1, hx1, H⟩ := bnd_out H
  refine RL.call rfl (X_callF Try.en83 rfl) ⟨rfl, rfl⟩ (clone_Span_any _ A0_ c0_ p0 (hM.sl 0 rfl) hx1) ?_
  rintro _ w5 ⟨_, rfl, hO4, hK⟩
  refine ⟨_, rfl, ?_⟩
  obtain ⟨A2, c3, rfl, hM⟩ := hM.addOwn hK hO4
  refine q (v := .slice A2 x1.length c3) rfl (X_assign rfl) ?_
  refine RL.nil ?_
  refine RW.seq ?_
  refine RW.region ?_
  refine q (v := .slice A2 x1.length c3) rfl (X_move rfl) ?_
  obtain ⟨hk6, H⟩ := chk_out H
  refine RL.call rfl (X_callF Try.en84 (by rfl)) ⟨rfl, rfl⟩ (sortFunc_calls Try.sortSpan Try.isAgg64 Try.sizeOf64 Span.ok cmpFrom cmpFrom_swo 85 #[] Try.en85 Try.lays85 (hM.own 0 rfl) hk6) ?_
  rintro _ w7 ⟨rfl, hK, hO⟩
  refine ⟨_, rfl, ?_⟩
  replace hM := hM.upd (i := 0) rfl hK (c' := .own 64 2 A2 c3 (sortL cmpFrom x1) Span.E) hO (fun _ hk => .inl hk) (fun _ hk => hk.elim)
  refine RL.nil ?_
  refine RW.seq ?_
  refine RW.region ?_
  refine q (v := .slice none 0 0) rfl (X_assign rfl) ?_
  refine RL.nil ?_
  refine RW.seq ?_
  refine RW.seq ?_
  refine RW.region ?_
  refine q (v := .slice A2 x1.length c3) rfl (X_move rfl) ?_
  refine q (v := .int .i64 ((sortL cmpFrom x1).length : Int)) rfl (X_lenE (l := (sortL cmpFrom x1)) Try.underlying75 (slen (show ev _ _ = Value.slice A2 x1.length c3 from rfl) (by simp only [List.length_set, sort_cmpFrom_len]))) ?_
  refine q (v := .int .i64 0) rfl (X_move rfl) ?_
  refine RL.nil ?_
  refine RW.block ?_
  replace hM := hM.addNil 64 2 Span.E
  refine RW.loop (fun gk φ wr => ∃ (A33 : Option Addr) (c34 : Nat) (l35 : List Span) (i36 : Int), φ 4 = .slice A33 l35.length c34 ∧ φ 12 = .slice A2 ((sortL cmpFrom x1).length) c3 ∧ φ 13 = .int .i64 ((sortL cmpFrom x1).length : Int) ∧ φ 14 = .int .i64 i36 ∧ SH none_ w wr [.own 64 2 A2 c3 (sortL cmpFrom x1) Span.E, .own 64 2 A33 c34 l35 Span.E] ∧ span_Merge_l1 x1 gk l35 i36 = some y) N0 ?_ ?_
  · exact ⟨none, 0, ([] : List Span), 0, rfl, (slen (show Value.slice A2 x1.length c3 = _ from rfl) (by simp only [List.length_set, sort_cmpFrom_len])), rfl, rfl, hM.sel [1, 0] rfl rfl, H⟩
  · rintro gk1 φ w62 ⟨A33, c34, l35, i36, h_4, h_12, h_13, h_14, hM, H⟩
    obtain ⟨φ0, rfl⟩ : ∃ φ0, φ = upd (upd (upd (upd φ0 4 (.slice A33 l35.length c34)) 12 (.slice A2 ((sortL cmpFrom x1).length) c3)) 13 (.int .i64 ((sortL cmpFrom x1).length : Int))) 14 (.int .i64 i36) := ⟨φ, by rw [upd_of h_4, upd_of h_12, upd_of h_13, upd_of h_14]⟩
    clear h_4 h_12 h_13 h_14
    cases gk1 with
    | zero => exact (no_out H).elim
    | succ gk1 =>
      replace H : span_Merge_l1_b x1 (span_Merge_l1 x1 gk1) l35 i36 = some y := H
      unfold span_Merge_l1_b at H
      refine RW.seq ?_
      refine RW.region ?_
      refine q (v := .bool (decide (i36 < ((sortL cmpFrom x1).length : Int)))) rfl (X_lss rfl rfl) ?_
      refine RL.nil ?_
      refine RW.seq ?_
      refine RW.cond rfl (fun hc63 => ?_) (fun hc63 => ?_)
      · replace H := brT hc63 H
        refine RW.skip ?_
        refine RW.seq ?_
        refine RW.block ?_
        refine RW.seq ?_
        refine RW.region ?_
        obtain ⟨x64, hx64, H⟩ := bnd_out H
        have hA65 := el_isA Span.ok (hM.ownsl 0 rfl).1 hx64
        refine q (v := .pointer (ea A2 (i36.toNat * 2))) rfl (X_indexAddrE Try.underlying75 Try.inf64 rfl rfl (idx_inr hx64) hA65) ?_
        refine q (v := .agg #[.int .i64 x64.From, .int .i64 x64.To]) rfl (X_loadAggE [.int .i64 x64.From, .int .i64 x64.To] Try.underlying64 rfl Try.inf64 rfl hA65 (el_rds Span.ok (hM.ownsl 0 rfl).1 hx64 (k := 0) rfl)) ?_
        refine RL.ex rfl (S_alloc hM [.int .i64 0, .int .i64 0] Try.inf64 rfl) ⟨rfl, rfl⟩ ?_
        rintro _ w66 ⟨B67, rfl, hM, hK⟩
        refine RL.exs rfl (S_store hM 0 [.int .i64 x64.From, .int .i64 x64.To] [.int .i64 x64.From, .int .i64 x64.To] rfl Try.inf64 rfl rfl rfl rfl rfl rfl rfl) rfl ?_
        rintro w68 ⟨hM, hK⟩
        refine RL.nil ?_
        refine RW.seq ?_
        refine RW.seq ?_
        refine RW.region ?_
        refine q (v := .pointer (some ⟨B67, 0, none⟩)) rfl (X_fieldAddr Try.underlying64 rfl Try.inf3 rfl rfl) ?_
        refine q (v := .int .i64 x64.From) rfl (X_load Try.underlying3 rfl rfl (at_cell (hM.blk 0 rfl) rfl)) ?_
        refine q (v := .pointer (some ⟨B67, 1, none⟩)) rfl (X_fieldAddr Try.underlying64 rfl Try.inf3 rfl rfl) ?_
        refine q (v := .int .i64 x64.To) rfl (X_load Try.underlying3 rfl rfl (at_cell (hM.blk 0 rfl) rfl)) ?_
        refine q (v := .bool (decide (x64.To ≤ x64.From))) rfl (X_geq rfl rfl) ?_
        refine RL.nil ?_
        refine RW.cond rfl (fun hc69 => ?_) (fun hc69 => ?_)
        · replace H := brT hc69 H
          refine RW.exit ?_
          refine RW.region ?_
          refine q (v := .int .i64 (w64 (i36 + 1))) rfl (X_addw rfl rfl) ?_
          refine q (v := .int .i64 (w64 (i36 + 1))) rfl (X_move rfl) ?_
          refine RL.nil ?_
          exact ⟨gk1, Nat.lt_succ_self _, A33, c34, l35, w64 (i36 + 1), rfl, rfl, rfl, rfl, hM.sel [1, 2] rfl rfl, H⟩
        · replace H := brF hc69 H
          refine RW.skip ?_
          refine RW.seq ?_
          refine RW.seq ?_
          refine RW.region ?_
          refine q (v := .slice A33 l35.length c34) rfl (X_move rfl) ?_
          refine q (v := .int .i64 (l35.length : Int)) rfl (X_lenE (l := l35) Try.underlying75 rfl) ?_
          refine q (v := .int .i64 (l35.length : Int)) rfl (X_assign rfl) ?_
          refine RL.nil ?_
          refine RW.seq ?_
          refine RW.drawK Try.mixed (fun w70 hw hcl hS => ?_)
          have hM := hM.keep (show Keeps none_ w68 w70 by rw [hw]; exact Keeps.drew _ _)
          clear hw
          have hR9 := hM
          have hKr := Keeps.refl none_ w70
          refine RD.takesK (by kernel_rfl) [0, 1, 2, 3, 4, 5, 6, 7, 8, 9, 10, 11, 12] 0 rfl (by kernel_rfl) hcl hS ?_
          refine RQ.opd 25 rfl rfl rfl (Yld.plain (v := .int .i64 (l35.length : Int)) rfl (fun _ _ => (X_move rfl))) ?_
          refine RQ.opd 26 rfl rfl rfl (Yld.plain (v := .bool (decide ((0 : Int) < (l35.length : Int)))) rfl (fun _ _ => (X_gtr rfl rfl))) ?_
          refine RQ.opd 27 rfl rfl rfl (Yld.plain (v := .bool (decide ((0 : Int) < (l35.length : Int)))) rfl (fun _ _ => (X_move rfl))) ?_
          refine RQ.opd 28 rfl rfl rfl (Yld.guard (v := .pointer (some ⟨B67, 0, none⟩)) rfl rfl rfl rfl (fun hg _ _ => (X_fieldAddr Try.underlying64 rfl Try.inf3 rfl rfl))) ?_
          refine RQ.opd 29 rfl rfl rfl (Yld.gK (v := .int .i64 x64.From) rfl rfl rfl rfl (fun hg _ hk => (X_load Try.underlying3 rfl (gb_on hg) (at_cell ((hR9.keep hk).blk 0 rfl) rfl)))) ?_
          refine RQ.opd 30 rfl rfl rfl (Yld.guard (v := .slice A33 l35.length c34) rfl rfl rfl rfl (fun hg _ _ => (X_move rfl))) ?_
          refine RQ.opd 31 rfl rfl rfl (Yld.guard (v := .int .i64 (l35.length : Int)) rfl rfl rfl rfl (fun hg _ _ => (X_move rfl))) ?_
          refine RQ.opd 32 rfl rfl rfl (Yld.guard (v := .int .i64 (w64 ((l35.length : Int) - 1))) rfl rfl rfl rfl (fun hg _ _ => (X_subw (gb_on hg) rfl))) ?_
          obtain ⟨x71, hx71, H⟩ := bnd_out H
          refine RQ.opd 33 rfl rfl rfl (Yld.guard (v := .pointer (ea A33 ((w64 ((l35.length : Int) - 1)).toNat * 2))) rfl rfl rfl rfl (fun hg _ _ => (X_indexAddrE Try.underlying75 Try.inf64 (gb_on hg) (gb_on hg) (idx_inr (gI_out hx71 hg)) (el_isA Span.ok (hR9.ownsl 2 rfl).1 (gI_out hx71 hg))))) ?_
          refine RQ.opd 34 rfl rfl rfl (Yld.guard (v := .pointer (ea A33 ((w64 ((l35.length : Int) - 1)).toNat * 2 + 1))) rfl rfl rfl rfl (fun hg _ _ => (X_fieldAddrE Try.underlying64 rfl Try.inf3 (gb_on hg) (el_isA Span.ok (hR9.ownsl 2 rfl).1 (gI_out hx71 hg)) rfl))) ?_
          refine RQ.opd 35 rfl rfl rfl (Yld.gK (v := .int .i64 x71.To) rfl rfl rfl rfl (fun hg _ hk => (X_loadE Try.underlying3 rfl (gb_on hg) (el_rd Span.ok ((hR9.keep hk).ownsl 2 rfl).1 (gI_out hx71 hg) (j := 1) rfl)))) ?_
          refine RQ.opd 36 rfl rfl rfl (Yld.guard (v := .bool (decide (x64.From ≤ x71.To))) rfl rfl rfl rfl (fun hg _ _ => (X_leq (gb_on hg) (gb_on hg)))) ?_
          refine RQ.opd 37 rfl rfl rfl (Yld.plain (v := .bool (bif decide ((0 : Int) < (l35.length : Int)) then decide (x64.From ≤ x71.To) else false)) rfl (fun _ _ => (X_pickB rfl (fun h => gbT h) (fun _ => rfl)))) ?_
          refine RQ.nil ?_
          clear hcl hS
          intro hcl hS
          refine RD.done (by kernel_rfl) hcl hS ?_
          refine RW.cond rfl (fun hc72 => ?_) (fun hc72 => ?_)
          · replace H := brT hc72 H
            refine RW.seq ?_
            refine RW.drawKU 14 Try.mixed (fun w73 hw hcl hS => ?_)
            have hM := hM.keep (show Keeps none_ w70 w73 by rw [hw]; exact Keeps.drew _ _)
            clear hw
            have hR10 := hM
            have hKr := Keeps.refl none_ w73
            refine RD.takesKU (by kernel_rfl) [0, 1, 2, 3, 4, 5, 6, 7, 8, 9, 10, 11, 12, 13] 1 rfl (by kernel_rfl) rfl hcl hS ?_
            refine RQ.opd 38 rfl rfl rfl (Yld.plain (v := .slice A33 l35.length c34) rfl (fun _ _ => (X_move rfl))) ?_
            refine RQ.opd 39 rfl rfl rfl (Yld.plain (v := .int .i64 (l35.length : Int)) rfl (fun _ _ => (X_move rfl))) ?_
            refine RQ.opd 40 rfl rfl rfl (Yld.plain (v := .int .i64 (w64 ((l35.length : Int) - 1))) rfl (fun _ _ => (X_subw rfl rfl))) ?_
            refine RQ.opd 41 rfl rfl rfl (Yld.plain (v := .slice A33 l35.length c34) rfl (fun _ _ => (X_move rfl))) ?_
            refine RQ.opd 42 rfl rfl rfl (Yld.plain (v := .int .i64 (l35.length : Int)) rfl (fun _ _ => (X_move rfl))) ?_
            refine RQ.opd 43 rfl rfl rfl (Yld.plain (v := .int .i64 (w64 ((l35.length : Int) - 1))) rfl (fun _ _ => (X_subw rfl rfl))) ?_
            obtain ⟨x74, hx74, H⟩ := bnd_out H
            have hA75 := el_isA Span.ok (hR10.ownsl 2 rfl).1 hx74
            refine RQ.opd 44 rfl rfl rfl (Yld.plain (v := .pointer (ea A33 ((w64 ((l35.length : Int) - 1)).toNat * 2))) rfl (fun _ _ => (X_indexAddrE Try.underlying75 Try.inf64 rfl rfl (idx_inr hx74) hA75))) ?_
            refine RQ.opd 45 rfl rfl rfl (Yld.plain (v := .pointer (ea A33 ((w64 ((l35.length : Int) - 1)).toNat * 2 + 1))) rfl (fun _ _ => (X_fieldAddrE Try.underlying64 rfl Try.inf3 rfl hA75 rfl))) ?_
            refine RQ.opd 46 rfl rfl rfl (Yld.KU (v := .int .i64 x74.To) 15 rfl (by kernel_rfl) (fun _ hk => (X_loadE Try.underlying3 rfl rfl (el_rd Span.ok ((hR10.keep hk).ownsl 2 rfl).1 hx74 (j := 1) rfl)))) ?_
            refine RQ.opd 47 rfl rfl rfl (Yld.plain (v := .pointer (some ⟨B67, 1, none⟩)) rfl (fun _ _ => (X_fieldAddr Try.underlying64 rfl Try.inf3 rfl rfl))) ?_
            refine RQ.opd 48 rfl rfl rfl (Yld.KU (v := .int .i64 x64.To) 15 rfl (by kernel_rfl) (fun _ hk => (X_load Try.underlying3 rfl rfl (at_cell ((hR10.keep hk).blk 0 rfl) rfl)))) ?_
            refine RQ.opd 49 rfl rfl rfl (Yld.plain (v := .int .i64 (mx x74.To x64.To)) rfl (fun _ _ => (X_max2 rfl rfl))) ?_
            refine RQ.opd 50 rfl rfl rfl (Yld.plain (v := .pointer (ea A33 ((w64 ((l35.length : Int) - 1)).toNat * 2))) rfl (fun _ _ => (X_indexAddrE Try.underlying75 Try.inf64 rfl rfl (idx_inr hx74) hA75))) ?_
            refine RQ.opd 51 rfl rfl rfl (Yld.plain (v := .pointer (ea A33 ((w64 ((l35.length : Int) - 1)).toNat * 2 + 1))) rfl (fun _ _ => (X_fieldAddrE Try.underlying64 rfl Try.inf3 rfl hA75 rfl))) ?_
            refine RQ.nil ?_
            clear hcl hS
            intro hcl hS
            refine RD.one (i := 14) rfl (by kernel_rfl) hcl hS ?_
            refine RS.exs (by kernel_rfl) hcl rfl rfl (S_storeE hM 2 (k := 1) (Span.mk x74.From (mx x74.To x64.To)) [.int .i64 (mx x74.To x64.To)] rfl Span.ok hx74 Try.inf3 rfl rfl rfl rfl rfl rfl rfl) rfl ?_
            rintro w76 ⟨hM, hK⟩
            refine ⟨SKU.now hcl rfl, ?_⟩
            clear hcl hS
            intro hcl hS
            refine RD.done (by kernel_rfl) hcl hS ?_
            refine RW.exit ?_
            refine RW.region ?_
            refine q (v := .int .i64 (w64 (i36 + 1))) rfl (X_addw rfl rfl) ?_
            refine q (v := .int .i64 (w64 (i36 + 1))) rfl (X_move rfl) ?_
            refine RL.nil ?_
            exact ⟨gk1, Nat.lt_succ_self _, A33, c34, (l35.set ((w64 ((l35.length : Int) - 1)).toNat) (Span.mk x74.From (mx x74.To x64.To))), w64 (i36 + 1), (slen (show Value.slice A33 l35.length c34 = _ from rfl) (by simp only [List.length_set, sort_cmpFrom_len])), rfl, rfl, rfl, hM.sel [1, 2] rfl rfl, H⟩
          · replace H := brF hc72 H
            refine RW.skip ?_
            refine RW.region ?_
            refine q (v := .slice A33 l35.length c34) rfl (X_move rfl) ?_
            refine q (v := .agg #[.int .i64 x64.From, .int .i64 x64.To]) rfl (X_loadAgg [.int .i64 x64.From, .int .i64 x64.To] Try.underlying64 rfl Try.inf64 rfl (at_cells (hM.blk 0 rfl) rfl)) ?_
            refine RL.ex rfl (S_lit1 hM Span.E Span.ok x64 Try.underlying75 Try.inf64 rfl rfl rfl rfl) ⟨rfl, rfl⟩ ?_
            rintro _ w77 ⟨A78, c79, rfl, hM, hK⟩
            obtain ⟨hk81, H⟩ := chk_out H
            refine RL.ex rfl (S_append (l := l35) (ys := [x64]) hM 3 rfl Span.ok Try.underlying75 Try.inf64 rfl rfl rfl rfl (hM.ownsl 0 rfl) hk81) ⟨rfl, rfl⟩ ?_
            rintro _ w80 ⟨A82, c83, rfl, hM, hK⟩
            refine q (v := .slice A82 ((l35 ++ ([x64])).length) c83) rfl (X_assign rfl) ?_
            refine RL.nil ?_
            refine RW.region ?_
            refine q (v := .int .i64 (w64 (i36 + 1))) rfl (X_addw rfl rfl) ?_
            refine q (v := .int .i64 (w64 (i36 + 1))) rfl (X_move rfl) ?_
            refine RL.nil ?_
            exact ⟨gk1, Nat.lt_succ_self _, A82, c83, (l35 ++ ([x64])), w64 (i36 + 1), rfl, rfl, rfl, rfl, hM.sel [2, 3] rfl rfl, H⟩
      · replace H := brF hc63 H
        refine RW.exit ?_
        refine RW.seq ?_
        refine RW.region ?_
        refine q (v := .slice A33 l35.length c34) rfl (X_move rfl) ?_
        refine q (v := .slice A33 l35.length c34) rfl (X_assign rfl) ?_
        refine RL.nil ?_
        refine RW.ret ?_
        replace H := Option.some.inj H
        subst H
        refine retV1 (.inl rfl) rfl (show RV _ _ _ (.tmp 2) (.slice A33 l35.length c34) from rfl) ?_
        exact ⟨_, rfl, hM.ownR 1 rfl, hM.keeps⟩
set_option maxRecDepth 20000 in
theorem rota_Out_any (w : World) (p0 : Rota_Rota) (B0_ : Nat) (r0_0 : Option Nat) (G0_0 : Nat → Prop) (p1 : Int) (p2 : Span) (hS : SH (ftl [.blk B0_ [.map r0_0] 70, .mpr r0_0 G0_0 (Value.int .i64) 64 2 Span.E p0.out none]) w w [.blk B0_ [.map r0_0] 70, .mpr r0_0 G0_0 (Value.int .i64) 64 2 Span.E p0.out none]) {y : Rota_Rota} (H : rota_Out p0 p1 p2 = some y) :
    Calls Try.prog 21 #[.pointer (some ⟨B0_, 0, none⟩), .int .i64 p1, .agg #[.int .i64 p2.From, .int .i64 p2.To]] w fun e w' => ∃ v, e = .returned v ∧ ∃ (rq0_0 : Option Nat) (Gq0_0 : Nat → Prop), v = .tuple #[] ∧ SH (ftl [.blk B0_ [.map r0_0] 70, .mpr r0_0 G0_0 (Value.int .i64) 64 2 Span.E p0.out none]) w w' [.blk B0_ [.map rq0_0] 70, .mpr rq0_0 Gq0_0 (Value.int .i64) 64 2 Span.E y.out none] := by
  unfold rota_Out at H
  refine calls_of_RW Try.func21 rfl (Nat.le_of_ble_eq_true rfl) ?_
  have hM := hS
  refine RW.seq ?_
  refine RW.region ?_
  refine RL.ex rfl (S_box hM [.int .i64 p2.From, .int .i64 p2.To] rfl rfl) ⟨rfl, rfl⟩ ?_
  rintro _ w1 ⟨B2, rfl, hM, hK⟩
  refine RL.nil ?_
  refine RW.seq ?_
  refine RW.seq ?_
  refine RW.region ?_
  refine q (v := .pointer (some ⟨B2, 0, none⟩)) rfl (X_fieldAddr Try.underlying64 rfl Try.inf3 rfl rfl) ?_
  refine q (v := .int .i64 p2.From) rfl (X_load Try.underlying3 rfl rfl (at_cell (hM.blk 0 rfl) rfl)) ?_
  refine q (v := .pointer (some ⟨B2, 1, none⟩)) rfl (X_fieldAddr Try.underlying64 rfl Try.inf3 rfl rfl) ?_
  refine q (v := .int .i64 p2.To) rfl (X_load Try.underlying3 rfl rfl (at_cell (hM.blk 0 rfl) rfl)) ?_
  refine q (v := .bool (decide (p2.To ≤ p2.From))) rfl (X_geq rfl rfl) ?_
  refine RL.nil ?_
  refine RW.cond rfl (fun hc3 => ?_) (fun hc3 => ?_)
  · replace H := brT hc3 H
    refine RW.ret ?_
    replace H := Option.some.inj H
    subst H
    exact ret0 (.inl rfl) rfl ⟨_, rfl, r0_0, G0_0, rfl, hM.sel [1, 2] rfl rfl⟩
  · replace H := brF hc3 H
    refine RW.skip ?_
    refine RW.cut (fun φ wr => ∃ (r9 : Option Nat) (m10 : Mp Int (List Span)) (G11 : Nat → Prop), φ 0 = .pointer (some ⟨B0_, 0, none⟩) ∧ φ 1 = .int .i64 p1 ∧ φ 5 = .pointer (some ⟨B2, 0, none⟩) ∧ SH (ftl [.blk B0_ [.map r0_0] 70, .mpr r0_0 G0_0 (Value.int .i64) 64 2 Span.E p0.out none]) w wr [.blk B2 [.int .i64 p2.From, .int .i64 p2.To] 64, .blk B0_ [.map r9] 70, .mpr r9 G11 (Value.int .i64) 64 2 Span.E m10 none] ∧ rota_Out_j1 p1 p2 m10 = some y) ?_ ?_
    · -- up to the join
      refine RW.seq ?_
      refine RW.region ?_
      refine q (v := .pointer (some ⟨B0_, 0, none⟩)) rfl (X_move rfl) ?_
      refine q (v := .pointer (some ⟨B0_, 0, none⟩)) rfl (X_nilP rfl) ?_
      refine q (v := .pointer (some ⟨B0_, 0, none⟩)) rfl (X_fieldAddr Try.underlying70 rfl Try.inf68 rfl rfl) ?_
      refine q (v := .map r0_0) rfl (X_load Try.underlying68 rfl rfl (at_cell (hM.blk 1 rfl) rfl)) ?_
      refine q (v := .bool p0.out.isNone) rfl (X_nilR rfl rfl Try.underlying68 (hM.mpr 2 rfl)) ?_
      refine RL.nil ?_
      refine RW.cond rfl (fun hc33 => ?_) (fun hc33 => ?_)
      · replace H := brT hc33 H
        refine RW.region ?_
        refine q (v := .pointer (some ⟨B0_, 0, none⟩)) rfl (X_move rfl) ?_
        refine RL.ex rfl (S_makeMapR hM (Value.int .i64) 64 2 Span.E) ⟨rfl, rfl⟩ ?_
        rintro _ w34 ⟨B35, G36, rfl, hM, hK⟩
        refine q (v := .pointer (some ⟨B0_, 0, none⟩)) rfl (X_nilP rfl) ?_
        refine q (v := .pointer (some ⟨B0_, 0, none⟩)) rfl (X_fieldAddr Try.underlying70 rfl Try.inf68 rfl rfl) ?_
        refine RL.exs rfl (S_store hM 2 [.map (some B35)] [.map (some B35)] rfl Try.inf68 rfl rfl rfl rfl rfl rfl rfl) rfl ?_
        rintro w37 ⟨hM, hK⟩
        refine RL.nil ?_
        exact ⟨some B35, mnew, G36, rfl, rfl, rfl, hM.sel [1, 2, 0] rfl rfl, H⟩
      · replace H := brF hc33 H
        refine RW.skip ?_
        exact ⟨r0_0, p0.out, G0_0, rfl, rfl, rfl, hM.sel [0, 1, 2] rfl rfl, H⟩
    · rintro φ w12 ⟨r9, m10, G11, h_0, h_1, h_5, hM, H⟩
      obtain ⟨φ0, rfl⟩ : ∃ φ0, φ = upd (upd (upd φ0 0 (.pointer (some ⟨B0_, 0, none⟩))) 1 (.int .i64 p1)) 5 (.pointer (some ⟨B2, 0, none⟩)) := ⟨φ, by rw [upd_of h_0, upd_of h_1, upd_of h_5]⟩
      clear h_0 h_1 h_5
      refine RW.drawK2 13 G11 15 Try.mixed (fun w13 hw hcl hS => ?_)
      have hM := hM.keep (show Keeps none_ w12 w13 by rw [hw]; exact Keeps.drew _ _)
      clear hw
      have hR4 := hM
      have hB4 := hM
      have hKr := Keeps.refl none_ w13
      refine RD.takesK2 (by kernel_rfl) [0, 1, 2, 3, 4, 5, 6, 7, 8, 9, 10, 11] 4 rfl (by kernel_rfl) rfl hcl hS ?_
      refine RQ.opd 20 rfl rfl rfl (Yld.plain (v := .pointer (some ⟨B0_, 0, none⟩)) rfl (fun _ _ => (X_move rfl))) ?_
      refine RQ.opd 21 rfl rfl rfl (Yld.plain (v := .pointer (some ⟨B0_, 0, none⟩)) rfl (fun _ _ => (X_nilP rfl))) ?_
      refine RQ.opd 22 rfl rfl rfl (Yld.plain (v := .pointer (some ⟨B0_, 0, none⟩)) rfl (fun _ _ => (X_fieldAddr Try.underlying70 rfl Try.inf68 rfl rfl))) ?_
      refine RQ.opd 23 rfl rfl rfl (Yld.K2b (v := .map r9) 16 rfl (by kernel_rfl) (fun _ hk => (X_load Try.underlying68 rfl rfl (at_cell (show At _ _ _ from hB4.besides 1 2 rfl rfl rfl hk) rfl)))) ?_
      refine RQ.opd 24 rfl rfl rfl (Yld.plain (v := .int .i64 p1) rfl (fun _ _ => (X_move rfl))) ?_
      refine RQ.opd 25 rfl rfl rfl (Yld.plain (v := .pointer (some ⟨B0_, 0, none⟩)) rfl (fun _ _ => (X_move rfl))) ?_
      refine RQ.opd 26 rfl rfl rfl (Yld.plain (v := .pointer (some ⟨B0_, 0, none⟩)) rfl (fun _ _ => (X_nilP rfl))) ?_
      refine RQ.opd 27 rfl rfl rfl (Yld.plain (v := .pointer (some ⟨B0_, 0, none⟩)) rfl (fun _ _ => (X_fieldAddr Try.underlying70 rfl Try.inf68 rfl rfl))) ?_
      refine RQ.opd 28 rfl rfl rfl (Yld.K2a (v := .map r9) 16 rfl (by kernel_rfl) (fun _ hk => (X_load Try.underlying68 rfl rfl (at_cell ((hR4.keep hk).blk 1 rfl) rfl)))) ?_
      refine RQ.opd 29 rfl rfl rfl (Yld.plain (v := .int .i64 p1) rfl (fun _ _ => (X_move rfl))) ?_
      obtain ⟨A14, c15, G17, hT16⟩ := (hR4.mpr 2 rfl).take p1
      replace hR4 := hR4.take 2 rfl hT16
      replace hM := hM.take 2 rfl (hT16.keep hKr)
      refine RQ.opd 30 rfl rfl rfl (Yld.K2a (v := .slice A14 (((mget m10 p1).getD []).length) c15) 16 rfl (by kernel_rfl) (fun _ hk => (X_lookR (k := p1) (KeyT.int Try.underlying3) Try.underlying68 rfl rfl ((hR4.keep hk).mpr 3 rfl) Try.inf75))) ?_
      refine RQ.opd 31 rfl rfl rfl (Yld.K2a (v := .agg #[.int .i64 p2.From, .int .i64 p2.To]) 16 rfl (by kernel_rfl) (fun _ hk => (X_loadAgg [.int .i64 p2.From, .int .i64 p2.To] Try.underlying64 rfl Try.inf64 rfl (at_cells ((hR4.keep hk).blk 1 rfl) rfl)))) ?_
      refine RQ.nil ?_
      clear hcl hS
      intro hcl hS
      refine RD.one (i := 12) rfl (by kernel_rfl) hcl hS ?_
      refine RS.ex (by kernel_rfl) hcl rfl rfl (S_lit1 hM Span.E Span.ok p2 Try.underlying75 Try.inf64 rfl rfl rfl rfl) ⟨rfl, rfl⟩ ?_
      rintro _ w18 ⟨A19, c20, rfl, hM, hK⟩
      refine ⟨SK2.next rfl rfl hS hK, ?_⟩
      clear hcl hS
      intro hcl hS
      replace hKr := hKr.trans hK
      refine RD.one (i := 13) rfl (by kernel_rfl) hcl hS ?_
      obtain ⟨hk22, H⟩ := chk_out H
      refine RS.ex (by kernel_rfl) hcl rfl rfl (S_append (l := ((mget m10 p1).getD [])) (ys := [p2]) hM 1 rfl Span.ok Try.underlying75 Try.inf64 rfl rfl rfl rfl (hM.ownsl 0 rfl) hk22) ⟨rfl, rfl⟩ ?_
      rintro _ w21 ⟨A23, c24, rfl, hM, hK⟩
      refine ⟨SK2.now1 hcl rfl rfl hS (by kernel_rfl) (hK.mono (hT16.sub2)), ?_⟩
      clear hcl hS
      intro hcl hS
      refine RD.one (i := 14) rfl (by kernel_rfl) hcl hS ?_
      obtain ⟨x25, hx25, H⟩ := bnd_out H
      refine RD.calls (by kernel_rfl) hcl rfl rfl (X_callF Try.en60 rfl) ⟨rfl, rfl⟩ (span_Merge_any _ A23 c24 (((mget m10 p1).getD []) ++ ([p2])) (hM.ownsl 1 rfl) hx25) ?_
      rintro _ w29 ⟨_, rfl, hO28, hK⟩
      refine ⟨_, rfl, SK2.next rfl rfl hS hK, ?_⟩
      clear hcl hS
      intro hcl hS
      obtain ⟨A26, c27, rfl, hM⟩ := hM.addOwn hK hO28
      refine RD.one (i := 15) rfl (by kernel_rfl) hcl hS ?_
      obtain ⟨hk31, H⟩ := chk_out H
      refine RS.exs (by kernel_rfl) hcl rfl rfl (S_mapR (k := p1) hM 5 0 rfl rfl rfl (KeyT.int Try.underlying3) Try.underlying68 rfl rfl rfl hk31 (by intro q hq; first | (cases hq; done) | (cases hq; rfl))) rfl ?_
      rintro w30 ⟨G32, hM, hK⟩
      refine ⟨SK2.now2 hcl rfl rfl (by kernel_rfl), ?_⟩
      clear hcl hS
      intro hcl hS
      refine RD.done (by kernel_rfl) hcl hS ?_
      replace H := Option.some.inj H
      subst H
      exact ret0 (.inr rfl) rfl ⟨_, rfl, r9, G32, rfl, hM.sel [4, 5] rfl rfl⟩
set_option maxRecDepth 20000 in
theorem rota_None_any (w : World) (p0 : Rota_Rota) (B0_ : Nat) (r0_0 : Option Nat) (G0_0 : Nat → Prop) (p1 : Int) (p2 : Span) (hA0 : At w B0_ (.cells [.map r0_0].toArray 70)) (hm0_0 : (Ck.mpr r0_0 G0_0 (Value.int .i64) 64 2 Span.E p0.out none).P w) {y : List Span} (H : rota_None p0 p1 p2 = some y) :
    Calls Try.prog 30 #[.pointer (some ⟨B0_, 0, none⟩), .int .i64 p1, .agg #[.int .i64 p2.From, .int .i64 p2.To]] w fun e w' => ∃ v, e = .returned v ∧ OwnR w w' 64 2 Span.E v y ∧ Keeps none_ w w' := by
  unfold rota_None at H
  refine calls_of_RW Try.func30 rfl (Nat.le_of_ble_eq_true rfl) ?_
  have hM := SH.start w
  replace hM := hM.startRo (c := .blk B0_ [.map r0_0] 70) hA0
  replace hM := hM.startRo hm0_0
  refine RW.seq ?_
  refine RW.region ?_
  refine RL.ex rfl (S_box hM [.int .i64 p2.From, .int .i64 p2.To] rfl rfl) ⟨rfl, rfl⟩ ?_
  rintro _ w1 ⟨B2, rfl, hM, hK⟩
  refine q (v := .slice none 0 0) rfl (X_assign rfl) ?_
  refine RL.nil ?_
  refine RW.seq ?_
  refine RW.region ?_
  refine q (v := .agg #[.int .i64 p2.From, .int .i64 p2.To]) rfl (X_loadAgg [.int .i64 p2.From, .int .i64 p2.To] Try.underlying64 rfl Try.inf64 rfl (at_cells (hM.blk 0 rfl) rfl)) ?_
  refine RL.ex rfl (S_lit1 hM Span.E Span.ok p2 Try.underlying75 Try.inf64 rfl rfl rfl rfl) ⟨rfl, rfl⟩ ?_
  rintro _ w3 ⟨A4, c5, rfl, hM, hK⟩
  obtain ⟨x6, hx6, H⟩ := bnd_out H
  refine RL.call rfl (X_callF Try.en60 rfl) ⟨rfl, rfl⟩ (span_Merge_any _ A4 c5 ([p2]) (hM.ownsl 0 rfl) hx6) ?_
  rintro _ w10 ⟨_, rfl, hO9, hK⟩
  refine ⟨_, rfl, ?_⟩
  obtain ⟨A7, c8, rfl, hM⟩ := hM.addOwn hK hO9
  refine q (v := .slice A7 x6.length c8) rfl (X_assign rfl) ?_
  refine RL.nil ?_
  refine RW.seq ?_
  refine RW.seq ?_
  refine RW.region ?_
  refine q (v := .int .i64 p1) rfl (X_move rfl) ?_
  refine q (v := .int .i64 (mn p1 16)) rfl (X_min2 rfl rfl) ?_
  refine q (v := .int .i64 0) rfl (X_move rfl) ?_
  refine RL.nil ?_
  refine RW.block ?_
  refine RW.loop (fun gk φ wr => ∃ (A24 : Option Addr) (c25 : Nat) (l26 : List Span) (i27 : Int), φ 0 = .pointer (some ⟨B0_, 0, none⟩) ∧ φ 7 = .slice A24 l26.length c25 ∧ φ 13 = .int .i64 (mn p1 16) ∧ φ 14 = .int .i64 i27 ∧ SH none_ w wr [.own 64 2 A24 c25 l26 Span.E, .ro (.blk B0_ [.map r0_0] 70), .ro (.mpr r0_0 G0_0 (Value.int .i64) 64 2 Span.E p0.out none)] ∧ rota_None_l1 p0 p1 gk l26 i27 = some y) N0 ?_ ?_
  · exact ⟨A7, c8, x6, 0, rfl, rfl, rfl, rfl, hM.sel [0, 4, 3] rfl rfl, H⟩
  · rintro gk1 φ w41 ⟨A24, c25, l26, i27, h_0, h_7, h_13, h_14, hM, H⟩
    obtain ⟨φ0, rfl⟩ : ∃ φ0, φ = upd (upd (upd (upd φ0 0 (.pointer (some ⟨B0_, 0, none⟩))) 7 (.slice A24 l26.length c25)) 13 (.int .i64 (mn p1 16))) 14 (.int .i64 i27) := ⟨φ, by rw [upd_of h_0, upd_of h_7, upd_of h_13, upd_of h_14]⟩
    clear h_0 h_7 h_13 h_14
    cases gk1 with
    | zero => exact (no_out H).elim
    | succ gk1 =>
      replace H : rota_None_l1_b p0 p1 (rota_None_l1 p0 p1 gk1) l26 i27 = some y := H
      unfold rota_None_l1_b at H
      refine RW.seq ?_
      refine RW.region ?_
      refine q (v := .bool (decide (i27 < (mn p1 16)))) rfl (X_lss rfl rfl) ?_
      refine RL.nil ?_
      refine RW.seq ?_
      refine RW.cond rfl (fun hc42 => ?_) (fun hc42 => ?_)
      · replace H := brT hc42 H
        refine RW.skip ?_
        refine RW.seq ?_
        refine RW.block ?_
        refine RW.seq ?_
        refine RW.region ?_
        refine q (v := .int .i64 i27) rfl (X_move rfl) ?_
        refine q (v := .int .i64 i27) rfl (X_assign rfl) ?_
        refine RL.nil ?_
        refine RW.region ?_
        refine q (v := .slice A24 l26.length c25) rfl (X_move rfl) ?_
        refine q (v := .pointer (some ⟨B0_, 0, none⟩)) rfl (X_move rfl) ?_
        refine q (v := .pointer (some ⟨B0_, 0, none⟩)) rfl (X_nilP rfl) ?_
        refine q (v := .pointer (some ⟨B0_, 0, none⟩)) rfl (X_fieldAddr Try.underlying70 rfl Try.inf68 rfl rfl) ?_
        refine q (v := .map r0_0) rfl (X_load Try.underlying68 rfl rfl (at_cell (hM.ro 1 rfl) rfl)) ?_
        refine q (v := .int .i64 i27) rfl (X_move rfl) ?_
        obtain ⟨A43, c44, hT45⟩ := (hM.ro 2 rfl).see i27
        replace hM := hM.see 2 rfl hT45
        refine q (v := .slice A43 (((mget p0.out i27).getD []).length) c44) rfl (X_lookS (KeyT.int Try.underlying3) Try.underlying68 rfl rfl hT45 Try.inf75) ?_
        obtain ⟨x46, hx46, H⟩ := bnd_out H
        refine RL.call rfl (X_callF Try.en63 rfl) ⟨rfl, rfl⟩ (span_And_any _ A24 c25 l26 A43 c44 ((mget p0.out i27).getD []) (hM.ownsl 1 rfl) (hM.sl 0 rfl) hx46) ?_
        rintro _ w50 ⟨_, rfl, hO49, hK⟩
        refine ⟨_, rfl, ?_⟩
        obtain ⟨A47, c48, rfl, hM⟩ := hM.addOwn hK hO49
        refine q (v := .slice A47 x46.length c48) rfl (X_assign rfl) ?_
        refine RL.nil ?_
        refine RW.region ?_
        refine q (v := .int .i64 (w64 (i27 + 1))) rfl (X_addw rfl rfl) ?_
        refine q (v := .int .i64 (w64 (i27 + 1))) rfl (X_move rfl) ?_
        refine RL.nil ?_
        exact ⟨gk1, Nat.lt_succ_self _, A47, c48, x46, w64 (i27 + 1), rfl, rfl, rfl, rfl, hM.sel [0, 3, 4] rfl rfl, H⟩
      · replace H := brF hc42 H
        refine RW.exit ?_
        refine RW.seq ?_
        refine RW.region ?_
        refine q (v := .slice A24 l26.length c25) rfl (X_move rfl) ?_
        refine q (v := .slice A24 l26.length c25) rfl (X_assign rfl) ?_
        refine RL.nil ?_
        refine RW.ret ?_
        replace H := Option.some.inj H
        subst H
        refine retV1 (.inl rfl) rfl (show RV _ _ _ (.tmp 6) (.slice A24 l26.length c25) from rfl) ?_
        exact ⟨_, rfl, hM.ownR 0 rfl, hM.keeps⟩
set_option maxRecDepth 20000 in
theorem law68_alive_any (w : World)  {y : Bool} (H : law68_alive = some y) :
    Calls Try.prog 31 #[] w fun e w' => ∃ v, e = .returned v ∧ v = .bool y ∧ Keeps none_ w w' := by
  unfold law68_alive at H
  refine calls_of_RW Try.func31 rfl (Nat.le_of_ble_eq_true rfl) ?_
  have hM := SH.start w
  refine RW.seq ?_
  refine RW.region ?_
  refine q (v := .bool false) rfl (X_assign rfl) ?_
  refine RL.nil ?_
  refine RW.seq ?_
  refine RW.region ?_
  refine q (v := .agg #[.map none]) rfl (X_build (cells := #[.map none]) (by simp only [List.map]; kernel_rfl)) ?_
  refine RL.ex rfl (S_box hM [.map none] rfl rfl) ⟨rfl, rfl⟩ ?_
  rintro _ w1 ⟨B2, rfl, hM, hK⟩
  refine q (v := .pointer (some ⟨B2, 0, none⟩)) rfl (X_assign rfl) ?_
  refine RL.nil ?_
  refine RW.seq ?_
  refine RW.region ?_
  refine q (v := .pointer (some ⟨B2, 0, none⟩)) rfl (X_move rfl) ?_
  refine q (v := .agg #[.int .i64 5, .int .i64 9]) rfl (X_build (cells := #[.int .i64 5, .int .i64 9]) (by simp only [List.map]; kernel_rfl)) ?_
  replace hM := hM.addNilR (α := Span) (Value.int .i64) 64 2 Span.E
  obtain ⟨x3, hx3, H⟩ := bnd_out H
  refine RL.call rfl (X_callF Try.en21 rfl) ⟨rfl, rfl⟩ (rota_Out_any _ (Rota_Rota.mk none) B2 none none_ 0 (Span.mk 5 9) (hM.part [1, 0] rfl rfl) hx3) ?_
  rintro _ w4 ⟨_, rfl, rz5_0, Gz5_0, rfl, hS⟩
  refine ⟨_, rfl, ?_⟩
  replace hM := hM.called [1, 0] [] rfl rfl rfl rfl rfl hS ⟨fun _ h => h, fun _ h => h, trivial⟩
  refine RL.nil ?_
  refine RW.seq ?_
  refine RW.region ?_
  refine q (v := .pointer (some ⟨B2, 0, none⟩)) rfl (X_move rfl) ?_
  obtain ⟨x6, hx6, H⟩ := bnd_out H
  refine RL.call rfl (X_callF Try.en28 rfl) ⟨rfl, rfl⟩ (rota_Back_any _ x3 B2 rz5_0 Gz5_0 0 6 (hM.blk 0 rfl) (hM.mpr 1 rfl) hx6) ?_
  rintro _ w7 ⟨_, rfl, rfl, hK⟩
  refine ⟨_, rfl, ?_⟩
  replace hM := hM.keep hK
  refine q (v := .bool (decide (x6 = 9))) rfl (X_eql rfl rfl) ?_
  refine q (v := .bool (decide (x6 = 9))) rfl (X_move rfl) ?_
  refine RL.gopd (v := .pointer (some ⟨B2, 0, none⟩)) 11 rfl rfl rfl rfl (fun hg => (X_move rfl)) rfl rfl ?_
  obtain ⟨x8, hx8, H⟩ := bnd_out H
  refine RL.gcallp (Rv := fun v _ => v = .bool x8) rfl rfl rfl rfl ⟨rfl, rfl⟩ (fun hg => (X_callF Try.en27 (congrArg List.toArray (ac (gb_on (q := (decide (x6 = 9)) == true) (v := .pointer (some ⟨B2, 0, none⟩)) hg) (ac rfl (ac rfl rfl)))))) (fun hg => rota_Serves_any _ x3 B2 rz5_0 Gz5_0 0 8 (hM.blk 0 rfl) (hM.mpr 1 rfl) (gI_out hx8 hg)) ?_
  rintro vw9 w9 hv hK
  rw [gb_to (v' := .bool x8) hv]
  replace hM := hM.keep hK
  refine RL.gopd (v := .bool (!x8)) 13 rfl rfl rfl rfl (fun hg => (X_not (gb_on hg))) rfl rfl ?_
  refine q (v := .bool (bif decide (x6 = 9) then !x8 else false)) rfl (X_pickB rfl (fun h => gbT h) (fun _ => rfl)) ?_
  refine q (v := .bool (bif decide (x6 = 9) then !x8 else false)) rfl (X_move rfl) ?_
  refine RL.gopd (v := .pointer (some ⟨B2, 0, none⟩)) 16 rfl rfl rfl rfl (fun hg => (X_move rfl)) rfl rfl ?_
  obtain ⟨x10, hx10, H⟩ := bnd_out H
  refine RL.gcallp (Rv := fun v _ => v = .bool x10) rfl rfl rfl rfl ⟨rfl, rfl⟩ (fun hg => (X_callF Try.en27 (congrArg List.toArray (ac (gb_on (q := (bif decide (x6 = 9) then !x8 else false) == true) (v := .pointer (some ⟨B2, 0, none⟩)) hg) (ac rfl (ac rfl rfl)))))) (fun hg => rota_Serves_any _ x3 B2 rz5_0 Gz5_0 1 8 (hM.blk 0 rfl) (hM.mpr 1 rfl) (gI_out hx10 hg)) ?_
  rintro vw11 w11 hv hK
  rw [gb_to (v' := .bool x10) hv]
  replace hM := hM.keep hK
  refine q (v := .bool (bif bif decide (x6 = 9) then !x8 else false then x10 else false)) rfl (X_pickB rfl (fun h => gbT h) (fun _ => rfl)) ?_
  refine q (v := .bool (bif bif decide (x6 = 9) then !x8 else false then x10 else false)) rfl (X_assign rfl) ?_
  refine RL.nil ?_
  refine RW.ret ?_
  replace H := Option.some.inj H
  subst H
  refine retV1 (.inl rfl) rfl (show RV _ _ _ (.tmp 0) (.bool (bif bif decide (x6 = 9) then !x8 else false then x10 else false)) from rfl) ?_
  exact ⟨_, rfl, rfl, hM.keeps⟩
set_option maxRecDepth 20000 in
theorem law68_RotaPlays_any (w : World) (A0_ : Option Addr) (c0_ : Nat) (p0 : List Law68_Op) (p1 : Law68_At) (hs0 : SL w A0_ c0_ p0 Law68_Op.E) {y : Bool} (H : law68_RotaPlays p0 p1 = some y) :
    Calls Try.prog 5 #[.slice A0_ p0.length c0_, .agg #[.int .i64 p1.Car, .int .i64 p1.Cars, .int .i64 p1.Tick, .int .i64 p1.Of.From, .int .i64 p1.Of.To]] w fun e w' => ∃ v, e = .returned v ∧ v = .bool y ∧ Keeps none_ w w' := by
  unfold law68_RotaPlays at H
  refine calls_of_RW Try.func5 rfl (Nat.le_of_ble_eq_true rfl) ?_
  have hM := SH.start w
  replace hM := hM.startSL hs0
  refine RW.seq ?_
  refine RW.region ?_
  refine RL.ex rfl (S_box hM [.int .i64 p1.Car, .int .i64 p1.Cars, .int .i64 p1.Tick, .int .i64 p1.Of.From, .int .i64 p1.Of.To] rfl rfl) ⟨rfl, rfl⟩ ?_
  rintro _ w1 ⟨B2, rfl, hM, hK⟩
  refine q (v := .bool false) rfl (X_assign rfl) ?_
  refine RL.nil ?_
  refine RW.seq ?_
  refine RW.seq ?_
  refine RW.region ?_
  refine q (v := .slice A0_ p0.length c0_) rfl (X_move rfl) ?_
  refine q (v := .int .i64 (p0.length : Int)) rfl (X_lenE (l := p0) Try.underlying62 rfl) ?_
  refine q (v := .bool (decide ((20 : Int) < (p0.length : Int)))) rfl (X_gtr rfl rfl) ?_
  refine RL.nil ?_
  refine RW.cond rfl (fun hc3 => ?_) (fun hc3 => ?_)
  · replace H := brT hc3 H
    refine RW.seq ?_
    refine RW.region ?_
    refine q (v := .bool true) rfl (X_assign rfl) ?_
    refine RL.nil ?_
    refine RW.ret ?_
    replace H := Option.some.inj H
    subst H
    refine retV1 (.inl rfl) rfl (show RV _ _ _ (.tmp 4) (.bool true) from rfl) ?_
    exact ⟨_, rfl, rfl, hM.keeps⟩
  · replace H := brF hc3 H
    refine RW.skip ?_
    refine RW.seq ?_
    refine RW.region ?_
    refine q (v := .agg #[.map none]) rfl (X_build (cells := #[.map none]) (by simp only [List.map]; kernel_rfl)) ?_
    refine RL.ex rfl (S_box hM [.map none] rfl rfl) ⟨rfl, rfl⟩ ?_
    rintro _ w4 ⟨B5, rfl, hM, hK⟩
    refine q (v := .pointer (some ⟨B5, 0, none⟩)) rfl (X_assign rfl) ?_
    refine RL.nil ?_
    refine RW.seq ?_
    refine RW.seq ?_
    refine RW.region ?_
    refine q (v := .int .i64 0) rfl (X_assign rfl) ?_
    refine RL.nil ?_
    refine RW.block ?_
    replace hM := hM.addNilR (α := Span) (Value.int .i64) 64 2 Span.E
    refine RW.loop (fun gk φ wr => ∃ (r54 : Option Nat) (m55 : Mp Int (List Span)) (G56 : Nat → Prop) (i57 : Int), φ 0 = .slice A0_ p0.length c0_ ∧ φ 3 = .pointer (some ⟨B2, 0, none⟩) ∧ φ 5 = .pointer (some ⟨B5, 0, none⟩) ∧ φ 6 = .int .i64 i57 ∧ SH none_ w wr [.blk B5 [.map r54] 70, .mpr r54 G56 (Value.int .i64) 64 2 Span.E m55 none, .blk B2 [.int .i64 p1.Car, .int .i64 p1.Cars, .int .i64 p1.Tick, .int .i64 p1.Of.From, .int .i64 p1.Of.To] 66, .sl A0_ c0_ p0 Law68_Op.E] ∧ law68_RotaPlays_l1 p0 p1 gk m55 i57 = some y) N0 ?_ ?_
    · exact ⟨none, none, none_, 0, rfl, rfl, rfl, rfl, hM.sel [1, 0, 2, 3] rfl rfl, H⟩
    · rintro gk1 φ w106 ⟨r54, m55, G56, i57, h_0, h_3, h_5, h_6, hM, H⟩
      obtain ⟨φ0, rfl⟩ : ∃ φ0, φ = upd (upd (upd (upd φ0 0 (.slice A0_ p0.length c0_)) 3 (.pointer (some ⟨B2, 0, none⟩))) 5 (.pointer (some ⟨B5, 0, none⟩))) 6 (.int .i64 i57) := ⟨φ, by rw [upd_of h_0, upd_of h_3, upd_of h_5, upd_of h_6]⟩
      clear h_0 h_3 h_5 h_6
      cases gk1 with
      | zero => exact (no_out H).elim
      | succ gk1 =>
        replace H : law68_RotaPlays_l1_b p0 p1 (law68_RotaPlays_l1 p0 p1 gk1) m55 i57 = some y := H
        unfold law68_RotaPlays_l1_b at H
        refine RW.seq ?_
        refine RW.seq ?_
        refine RW.region ?_
        refine q (v := .int .i64 i57) rfl (X_move rfl) ?_
        refine q (v := .slice A0_ p0.length c0_) rfl (X_move rfl) ?_
        refine q (v := .int .i64 (p0.length : Int)) rfl (X_lenE (l := p0) Try.underlying62 rfl) ?_
        refine q (v := .bool (decide (i57 < (p0.length : Int)))) rfl (X_lss rfl rfl) ?_
        refine RL.nil ?_
        refine RW.cond rfl (fun hc107 => ?_) (fun hc107 => ?_)
        · replace H := brT hc107 H
          refine RW.skip ?_
          refine RW.seq ?_
          refine RW.block ?_
          refine RW.cut (fun φ wr => ∃ (r119 : Option Nat) (m120 : Mp Int (List Span)) (G121 : Nat → Prop), φ 0 = .slice A0_ p0.length c0_ ∧ φ 3 = .pointer (some ⟨B2, 0, none⟩) ∧ φ 5 = .pointer (some ⟨B5, 0, none⟩) ∧ φ 6 = .int .i64 i57 ∧ SH none_ w wr [.blk B5 [.map r119] 70, .mpr r119 G121 (Value.int .i64) 64 2 Span.E m120 none, .blk B2 [.int .i64 p1.Car, .int .i64 p1.Cars, .int .i64 p1.Tick, .int .i64 p1.Of.From, .int .i64 p1.Of.To] 66, .sl A0_ c0_ p0 Law68_Op.E] ∧ law68_RotaPlays_j2 p0 i57 (law68_RotaPlays_l1 p0 p1 gk1) m120 = some y) ?_ ?_
          · -- up to the join
            refine RW.seq ?_
            refine RW.region ?_
            refine q (v := .slice A0_ p0.length c0_) rfl (X_move rfl) ?_
            refine q (v := .int .i64 i57) rfl (X_move rfl) ?_
            obtain ⟨x140, hx140, H⟩ := bnd_out H
            have hA141 := el_isA Law68_Op.ok (hM.sl 3 rfl).1 hx140
            refine q (v := .pointer (ea A0_ (i57.toNat * 4))) rfl (X_indexAddrE Try.underlying62 Try.inf72 rfl rfl (idx_inr hx140) hA141) ?_
            refine q (v := .pointer (ea A0_ (i57.toNat * 4))) rfl (X_fieldAddrE Try.underlying72 rfl Try.inf4 rfl hA141 rfl) ?_
            refine q (v := .bool x140.In) rfl (X_loadE Try.underlying4 rfl rfl (el_rd Law68_Op.ok (hM.sl 3 rfl).1 hx140 (j := 0) rfl)) ?_
            refine RL.nil ?_
            refine RW.cond rfl (fun hc142 => ?_) (fun hc142 => ?_)
            · replace H := brT hc142 H
              refine RW.drawKU 11 Try.mixed (fun w143 hw hcl hS => ?_)
              have hM := hM.keep (show Keeps none_ w106 w143 by rw [hw]; exact Keeps.drew _ _)
              clear hw
              have hR8 := hM
              have hKr := Keeps.refl none_ w143
              refine RD.takesKU (by kernel_rfl) [0, 1, 2, 3, 4, 5, 6, 7, 8, 9, 10] 1 rfl (by kernel_rfl) rfl hcl hS ?_
              refine RQ.opd 30 rfl rfl rfl (Yld.plain (v := .pointer (some ⟨B5, 0, none⟩)) rfl (fun _ _ => (X_move rfl))) ?_
              refine RQ.opd 31 rfl rfl rfl (Yld.plain (v := .slice A0_ p0.length c0_) rfl (fun _ _ => (X_move rfl))) ?_
              refine RQ.opd 32 rfl rfl rfl (Yld.plain (v := .int .i64 i57) rfl (fun _ _ => (X_move rfl))) ?_
              refine RQ.opd 33 rfl rfl rfl (Yld.plain (v := .pointer (ea A0_ (i57.toNat * 4))) rfl (fun _ _ => (X_indexAddrE Try.underlying62 Try.inf72 rfl rfl (idx_inr hx140) hA141))) ?_
              refine RQ.opd 34 rfl rfl rfl (Yld.plain (v := .pointer (ea A0_ (i57.toNat * 4 + 1))) rfl (fun _ _ => (X_fieldAddrE Try.underlying72 rfl Try.inf3 rfl hA141 rfl))) ?_
              refine RQ.opd 35 rfl rfl rfl (Yld.KU (v := .int .i64 x140.Car) 12 rfl (by kernel_rfl) (fun _ hk => (X_loadE Try.underlying3 rfl rfl (el_rd Law68_Op.ok ((hR8.keep hk).sl 3 rfl).1 hx140 (j := 1) rfl)))) ?_
              refine RQ.opd 36 rfl rfl rfl (Yld.plain (v := .slice A0_ p0.length c0_) rfl (fun _ _ => (X_move rfl))) ?_
              refine RQ.opd 37 rfl rfl rfl (Yld.plain (v := .int .i64 i57) rfl (fun _ _ => (X_move rfl))) ?_
              refine RQ.opd 38 rfl rfl rfl (Yld.plain (v := .pointer (ea A0_ (i57.toNat * 4))) rfl (fun _ _ => (X_indexAddrE Try.underlying62 Try.inf72 rfl rfl (idx_inr hx140) hA141))) ?_
              refine RQ.opd 39 rfl rfl rfl (Yld.plain (v := .pointer (ea A0_ (i57.toNat * 4 + 2))) rfl (fun _ _ => (X_fieldAddrE Try.underlying72 rfl Try.inf64 rfl hA141 rfl))) ?_
              refine RQ.opd 40 rfl rfl rfl (Yld.KU (v := .agg #[.int .i64 x140.S.From, .int .i64 x140.S.To]) 12 rfl (by kernel_rfl) (fun _ hk => (X_loadAggE [.int .i64 x140.S.From, .int .i64 x140.S.To] Try.underlying64 rfl Try.inf64 rfl hA141 (el_rds Law68_Op.ok ((hR8.keep hk).sl 3 rfl).1 hx140 (k := 2) rfl)))) ?_
              refine RQ.nil ?_
              clear hcl hS
              intro hcl hS
              refine RD.one (i := 11) rfl (by kernel_rfl) hcl hS ?_
              obtain ⟨x144, hx144, H⟩ := bnd_out H
              refine RD.calls (by kernel_rfl) hcl rfl rfl (X_callF Try.en20 rfl) ⟨rfl, rfl⟩ (rota_In_any _ (Rota_Rota.mk m55) B5 r54 G56 x140.Car x140.S (hM.part [0, 1] rfl rfl) hx144) ?_
              rintro _ w145 ⟨_, rfl, rz146_0, Gz146_0, rfl, hQ⟩
              refine ⟨_, rfl, SKU.now hcl rfl, ?_⟩
              clear hcl hS
              intro hcl hS
              replace hM := hM.called [0, 1] [2, 3] rfl rfl rfl rfl rfl hQ ⟨fun _ h => h, fun _ h => h, trivial⟩
              refine RD.done (by kernel_rfl) hcl hS ?_
              exact ⟨rz146_0, x144.out, Gz146_0, rfl, rfl, rfl, rfl, hM.sel [0, 1, 2, 3] rfl rfl, H⟩
            · replace H := brF hc142 H
              refine RW.drawKU 11 Try.mixed (fun w147 hw hcl hS => ?_)
              have hM := hM.keep (show Keeps none_ w106 w147 by rw [hw]; exact Keeps.drew _ _)
              clear hw
              have hR9 := hM
              have hKr := Keeps.refl none_ w147
              refine RD.takesKU (by kernel_rfl) [0, 1, 2, 3, 4, 5, 6, 7, 8, 9, 10] 1 rfl (by kernel_rfl) rfl hcl hS ?_
              refine RQ.opd 42 rfl rfl rfl (Yld.plain (v := .pointer (some ⟨B5, 0, none⟩)) rfl (fun _ _ => (X_move rfl))) ?_
              refine RQ.opd 43 rfl rfl rfl (Yld.plain (v := .slice A0_ p0.length c0_) rfl (fun _ _ => (X_move rfl))) ?_
              refine RQ.opd 44 rfl rfl rfl (Yld.plain (v := .int .i64 i57) rfl (fun _ _ => (X_move rfl))) ?_
              refine RQ.opd 45 rfl rfl rfl (Yld.plain (v := .pointer (ea A0_ (i57.toNat * 4))) rfl (fun _ _ => (X_indexAddrE Try.underlying62 Try.inf72 rfl rfl (idx_inr hx140) hA141))) ?_
              refine RQ.opd 46 rfl rfl rfl (Yld.plain (v := .pointer (ea A0_ (i57.toNat * 4 + 1))) rfl (fun _ _ => (X_fieldAddrE Try.underlying72 rfl Try.inf3 rfl hA141 rfl))) ?_
              refine RQ.opd 47 rfl rfl rfl (Yld.KU (v := .int .i64 x140.Car) 12 rfl (by kernel_rfl) (fun _ hk => (X_loadE Try.underlying3 rfl rfl (el_rd Law68_Op.ok ((hR9.keep hk).sl 3 rfl).1 hx140 (j := 1) rfl)))) ?_
              refine RQ.opd 48 rfl rfl rfl (Yld.plain (v := .slice A0_ p0.length c0_) rfl (fun _ _ => (X_move rfl))) ?_
              refine RQ.opd 49 rfl rfl rfl (Yld.plain (v := .int .i64 i57) rfl (fun _ _ => (X_move rfl))) ?_
              refine RQ.opd 50 rfl rfl rfl (Yld.plain (v := .pointer (ea A0_ (i57.toNat * 4))) rfl (fun _ _ => (X_indexAddrE Try.underlying62 Try.inf72 rfl rfl (idx_inr hx140) hA141))) ?_
              refine RQ.opd 51 rfl rfl rfl (Yld.plain (v := .pointer (ea A0_ (i57.toNat * 4 + 2))) rfl (fun _ _ => (X_fieldAddrE Try.underlying72 rfl Try.inf64 rfl hA141 rfl))) ?_
              refine RQ.opd 52 rfl rfl rfl (Yld.KU (v := .agg #[.int .i64 x140.S.From, .int .i64 x140.S.To]) 12 rfl (by kernel_rfl) (fun _ hk => (X_loadAggE [.int .i64 x140.S.From, .int .i64 x140.S.To] Try.underlying64 rfl Try.inf64 rfl hA141 (el_rds Law68_Op.ok ((hR9.keep hk).sl 3 rfl).1 hx140 (k := 2) rfl)))) ?_
              refine RQ.nil ?_
              clear hcl hS
              intro hcl hS
              refine RD.one (i := 11) rfl (by kernel_rfl) hcl hS ?_
              obtain ⟨x148, hx148, H⟩ := bnd_out H
              refine RD.calls (by kernel_rfl) hcl rfl rfl (X_callF Try.en21 rfl) ⟨rfl, rfl⟩ (rota_Out_any _ (Rota_Rota.mk m55) B5 r54 G56 x140.Car x140.S (hM.part [0, 1] rfl rfl) hx148) ?_
              rintro _ w149 ⟨_, rfl, rz150_0, Gz150_0, rfl, hQ⟩
              refine ⟨_, rfl, SKU.now hcl rfl, ?_⟩
              clear hcl hS
              intro hcl hS
              replace hM := hM.called [0, 1] [2, 3] rfl rfl rfl rfl rfl hQ ⟨fun _ h => h, fun _ h => h, trivial⟩
              refine RD.done (by kernel_rfl) hcl hS ?_
              exact ⟨rz150_0, x148.out, Gz150_0, rfl, rfl, rfl, rfl, hM.sel [0, 1, 2, 3] rfl rfl, H⟩
          · rintro φ w122 ⟨r119, m120, G121, h_0, h_3, h_5, h_6, hM, H⟩
            obtain ⟨φ0, rfl⟩ : ∃ φ0, φ = upd (upd (upd (upd φ0 0 (.slice A0_ p0.length c0_)) 3 (.pointer (some ⟨B2, 0, none⟩))) 5 (.pointer (some ⟨B5, 0, none⟩))) 6 (.int .i64 i57) := ⟨φ, by rw [upd_of h_0, upd_of h_3, upd_of h_5, upd_of h_6]⟩
            clear h_0 h_3 h_5 h_6
            refine RW.seq ?_
            refine RW.drawK Try.mixed (fun w123 hw hcl hS => ?_)
            have hM := hM.keep (show Keeps none_ w122 w123 by rw [hw]; exact Keeps.drew _ _)
            clear hw
            have hR10 := hM
            have hKr := Keeps.refl none_ w123
            refine RD.takesK (by kernel_rfl) [0, 1, 2, 3, 4, 5, 7, 8, 9, 10, 11, 12, 13, 14, 15] 4 rfl (by kernel_rfl) hcl hS ?_
            refine RQ.opd 54 rfl rfl rfl (Yld.plain (v := .pointer (some ⟨B5, 0, none⟩)) rfl (fun _ _ => (X_move rfl))) ?_
            refine RQ.opd 55 rfl rfl rfl (Yld.plain (v := .slice A0_ p0.length c0_) rfl (fun _ _ => (X_move rfl))) ?_
            refine RQ.opd 56 rfl rfl rfl (Yld.plain (v := .int .i64 i57) rfl (fun _ _ => (X_move rfl))) ?_
            obtain ⟨x124, hx124, H⟩ := bnd_out H
            have hA125 := el_isA Law68_Op.ok (hR10.sl 3 rfl).1 hx124
            refine RQ.opd 57 rfl rfl rfl (Yld.plain (v := .pointer (ea A0_ (i57.toNat * 4))) rfl (fun _ _ => (X_indexAddrE Try.underlying62 Try.inf72 rfl rfl (idx_inr hx124) hA125))) ?_
            refine RQ.opd 58 rfl rfl rfl (Yld.plain (v := .pointer (ea A0_ (i57.toNat * 4 + 1))) rfl (fun _ _ => (X_fieldAddrE Try.underlying72 rfl Try.inf3 rfl hA125 rfl))) ?_
            refine RQ.opd 59 rfl rfl rfl (Yld.K (v := .int .i64 x124.Car) rfl (fun _ hk => (X_loadE Try.underlying3 rfl rfl (el_rd Law68_Op.ok ((hR10.keep hk).sl 3 rfl).1 hx124 (j := 1) rfl)))) ?_
            refine RQ.opd 61 rfl rfl rfl (Yld.plain (v := .slice A0_ p0.length c0_) rfl (fun _ _ => (X_move rfl))) ?_
            refine RQ.opd 62 rfl rfl rfl (Yld.plain (v := .int .i64 i57) rfl (fun _ _ => (X_move rfl))) ?_
            refine RQ.opd 63 rfl rfl rfl (Yld.plain (v := .int .i64 (w64 (i57 + 1))) rfl (fun _ _ => (X_addw rfl rfl))) ?_
            obtain ⟨hk126, H⟩ := chk_out H
            refine RQ.opd 64 rfl rfl rfl (Yld.plain (v := .slice A0_ ((p0.take (w64 (i57 + 1)).toNat).length) c0_) rfl (fun _ _ => (X_takeE (l := p0) Try.underlying62 Try.inf72 rfl rfl hk126 (hR10.sl 3 rfl).2))) ?_
            refine RQ.opd 65 rfl rfl rfl (Yld.plain (v := .slice A0_ p0.length c0_) rfl (fun _ _ => (X_move rfl))) ?_
            refine RQ.opd 66 rfl rfl rfl (Yld.plain (v := .int .i64 i57) rfl (fun _ _ => (X_move rfl))) ?_
            refine RQ.opd 67 rfl rfl rfl (Yld.plain (v := .pointer (ea A0_ (i57.toNat * 4))) rfl (fun _ _ => (X_indexAddrE Try.underlying62 Try.inf72 rfl rfl (idx_inr hx124) hA125))) ?_
            refine RQ.opd 68 rfl rfl rfl (Yld.plain (v := .pointer (ea A0_ (i57.toNat * 4 + 1))) rfl (fun _ _ => (X_fieldAddrE Try.underlying72 rfl Try.inf3 rfl hA125 rfl))) ?_
            refine RQ.opd 69 rfl rfl rfl (Yld.K (v := .int .i64 x124.Car) rfl (fun _ hk => (X_loadE Try.underlying3 rfl rfl (el_rd Law68_Op.ok ((hR10.keep hk).sl 3 rfl).1 hx124 (j := 1) rfl)))) ?_
            refine RQ.nil ?_
            clear hcl hS
            intro hcl hS
            refine RD.one (i := 6) rfl (by kernel_rfl) hcl hS ?_
            obtain ⟨x127, hx127, H⟩ := bnd_out H
            refine RD.calls (by kernel_rfl) hcl rfl rfl (X_callF Try.en23 rfl) ⟨rfl, rfl⟩ (rota_Spans_any _ (Rota_Rota.mk m120) B5 r119 G121 x124.Car (hM.blk 0 rfl) (hM.mpr 1 rfl) hx127) ?_
            rintro _ w131 ⟨_, rfl, hO130, hK⟩
            refine ⟨_, rfl, SK.next hS hK, ?_⟩
            clear hcl hS
            intro hcl hS
            obtain ⟨A128, c129, rfl, hM⟩ := hM.addOwn hK hO130
            replace hKr := hKr.trans hK
            refine RD.one (i := 16) rfl (by kernel_rfl) hcl hS ?_
            obtain ⟨x132, hx132, H⟩ := bnd_out H
            refine RD.calls (by kernel_rfl) hcl rfl rfl (X_callF Try.en24 rfl) ⟨rfl, rfl⟩ (law68_row_any _ A0_ c0_ (p0.take (w64 (i57 + 1)).toNat) x124.Car (SL.take (hM.sl 4 rfl) ((w64 (i57 + 1)).toNat)) hx132) ?_
            rintro _ w136 ⟨_, rfl, hO135, hK⟩
            refine ⟨_, rfl, SK.next hS hK, ?_⟩
            clear hcl hS
            intro hcl hS
            obtain ⟨A133, c134, rfl, hM⟩ := hM.addOwn hK hO135
            replace hKr := hKr.trans hK
            refine RD.one (i := 17) rfl (by kernel_rfl) hcl hS ?_
            obtain ⟨x137, hx137, H⟩ := bnd_out H
            refine RD.calls (by kernel_rfl) hcl rfl rfl (X_callF Try.en22 rfl) ⟨rfl, rfl⟩ (equal_Span_any _ A128 c129 x127 A133 c134 x132 (hM.ownsl 1 rfl) (hM.ownsl 0 rfl) hx137) ?_
            rintro _ w138 ⟨_, rfl, rfl, hK⟩
            refine ⟨_, rfl, SK.next hS hK, ?_⟩
            clear hcl hS
            intro hcl hS
            replace hM := hM.keep hK
            replace hKr := hKr.trans hK
            refine RD.takesK (by kernel_rfl) [18] 0 rfl (by kernel_rfl) hcl hS ?_
            refine RQ.opd 72 rfl rfl rfl (Yld.plain (v := .bool (!x137)) rfl (fun _ _ => (X_not rfl))) ?_
            refine RQ.nil ?_
            clear hcl hS
            intro hcl hS
            refine RD.done (by kernel_rfl) hcl hS ?_
            refine RW.cond rfl (fun hc139 => ?_) (fun hc139 => ?_)
            · replace H := brT hc139 H
              refine RW.seq ?_
              refine RW.region ?_
              refine q (v := .bool false) rfl (X_assign rfl) ?_
              refine RL.nil ?_
              refine RW.ret ?_
              replace H := Option.some.inj H
              subst H
              refine retV1 (.inl rfl) rfl (show RV _ _ _ (.tmp 4) (.bool false) from rfl) ?_
              exact ⟨_, rfl, rfl, hM.keeps⟩
            · replace H := brF hc139 H
              refine RW.skip ?_
              refine RW.region ?_
              refine q (v := .int .i64 i57) rfl (X_move rfl) ?_
              refine q (v := .int .i64 (w64 (i57 + 1))) rfl (X_addw rfl rfl) ?_
              refine q (v := .int .i64 (w64 (i57 + 1))) rfl (X_assign rfl) ?_
              refine RL.nil ?_
              exact ⟨gk1, Nat.lt_succ_self _, r119, m120, G121, w64 (i57 + 1), rfl, rfl, rfl, rfl, hM.sel [2, 3, 4, 5] rfl rfl, H⟩
        · replace H := brF hc107 H
          refine RW.exit ?_
          refine RW.seq ?_
          refine RW.region ?_
          refine q (v := .slice A0_ p0.length c0_) rfl (X_move rfl) ?_
          refine q (v := .pointer (some ⟨B2, 0, none⟩)) rfl (X_fieldAddr Try.underlying66 rfl Try.inf3 rfl rfl) ?_
          refine q (v := .int .i64 p1.Car) rfl (X_load Try.underlying3 rfl rfl (at_cell (hM.blk 2 rfl) rfl)) ?_
          obtain ⟨x151, hx151, H⟩ := bnd_out H
          refine RL.call rfl (X_callF Try.en24 rfl) ⟨rfl, rfl⟩ (law68_row_any _ A0_ c0_ p0 p1.Car (hM.sl 3 rfl) hx151) ?_
          rintro _ w155 ⟨_, rfl, hO154, hK⟩
          refine ⟨_, rfl, ?_⟩
          obtain ⟨A152, c153, rfl, hM⟩ := hM.addOwn hK hO154
          refine q (v := .slice A152 x151.length c153) rfl (X_assign rfl) ?_
          refine RL.nil ?_
          refine RW.seq ?_
          refine RW.region ?_
          refine q (v := .pointer (some ⟨B2, 2, none⟩)) rfl (X_fieldAddr Try.underlying66 rfl Try.inf3 rfl rfl) ?_
          refine q (v := .int .i64 p1.Tick) rfl (X_load Try.underlying3 rfl rfl (at_cell (hM.blk 3 rfl) rfl)) ?_
          refine q (v := .int .i64 p1.Tick) rfl (X_assign rfl) ?_
          refine RL.nil ?_
          refine RW.seq ?_
          refine RW.seq ?_
          refine RW.region ?_
          refine q (v := .int .i64 0) rfl (X_assign rfl) ?_
          refine RL.nil ?_
          refine RW.block ?_
          refine RW.loop (fun gk φ wr => ∃ (i163 : Int) (i164 : Int), φ 0 = .slice A0_ p0.length c0_ ∧ φ 3 = .pointer (some ⟨B2, 0, none⟩) ∧ φ 5 = .pointer (some ⟨B5, 0, none⟩) ∧ φ 7 = .slice A152 x151.length c153 ∧ φ 8 = .int .i64 i163 ∧ φ 9 = .int .i64 i164 ∧ SH none_ w wr [.own 64 2 A152 c153 x151 Span.E, .blk B5 [.map r54] 70, .mpr r54 G56 (Value.int .i64) 64 2 Span.E m55 none, .blk B2 [.int .i64 p1.Car, .int .i64 p1.Cars, .int .i64 p1.Tick, .int .i64 p1.Of.From, .int .i64 p1.Of.To] 66, .sl A0_ c0_ p0 Law68_Op.E] ∧ law68_RotaPlays_l3 p0 p1 m55 x151 gk i163 i164 = some y) N0 ?_ ?_
          · exact ⟨p1.Tick, 0, rfl, rfl, rfl, rfl, rfl, rfl, hM.sel [0, 1, 2, 3, 4] rfl rfl, H⟩
          · rintro gk3 φ w172 ⟨i163, i164, h_0, h_3, h_5, h_7, h_8, h_9, hM, H⟩
            obtain ⟨φ0, rfl⟩ : ∃ φ0, φ = upd (upd (upd (upd (upd (upd φ0 0 (.slice A0_ p0.length c0_)) 3 (.pointer (some ⟨B2, 0, none⟩))) 5 (.pointer (some ⟨B5, 0, none⟩))) 7 (.slice A152 x151.length c153)) 8 (.int .i64 i163)) 9 (.int .i64 i164) := ⟨φ, by rw [upd_of h_0, upd_of h_3, upd_of h_5, upd_of h_7, upd_of h_8, upd_of h_9]⟩
            clear h_0 h_3 h_5 h_7 h_8 h_9
            cases gk3 with
            | zero => exact (no_out H).elim
            | succ gk3 =>
              replace H : law68_RotaPlays_l3_b p0 p1 m55 x151 (law68_RotaPlays_l3 p0 p1 m55 x151 gk3) i163 i164 = some y := H
              unfold law68_RotaPlays_l3_b at H
              refine RW.seq ?_
              refine RW.seq ?_
              refine RW.region ?_
              refine q (v := .int .i64 i164) rfl (X_move rfl) ?_
              refine q (v := .slice A152 x151.length c153) rfl (X_move rfl) ?_
              refine q (v := .int .i64 (x151.length : Int)) rfl (X_lenE (l := x151) Try.underlying75 rfl) ?_
              refine q (v := .bool (decide (i164 < (x151.length : Int)))) rfl (X_lss rfl rfl) ?_
              refine RL.nil ?_
              refine RW.cond rfl (fun hc173 => ?_) (fun hc173 => ?_)
              · replace H := brT hc173 H
                refine RW.skip ?_
                refine RW.seq ?_
                refine RW.block ?_
                refine RW.seq ?_
                refine RW.drawK Try.mixed (fun w174 hw hcl hS => ?_)
                have hM := hM.keep (show Keeps none_ w172 w174 by rw [hw]; exact Keeps.drew _ _)
                clear hw
                have hR17 := hM
                have hKr := Keeps.refl none_ w174
                refine RD.takesK (by kernel_rfl) [0, 1, 2, 3, 4, 5, 6, 7, 8, 9, 10, 11, 12, 13, 14, 15, 16, 17] 0 rfl (by kernel_rfl) hcl hS ?_
                refine RQ.opd 85 rfl rfl rfl (Yld.plain (v := .slice A152 x151.length c153) rfl (fun _ _ => (X_move rfl))) ?_
                refine RQ.opd 86 rfl rfl rfl (Yld.plain (v := .int .i64 i164) rfl (fun _ _ => (X_move rfl))) ?_
                obtain ⟨x175, hx175, H⟩ := bnd_out H
                have hA176 := el_isA Span.ok (hR17.ownsl 0 rfl).1 hx175
                refine RQ.opd 87 rfl rfl rfl (Yld.plain (v := .pointer (ea A152 (i164.toNat * 2))) rfl (fun _ _ => (X_indexAddrE Try.underlying75 Try.inf64 rfl rfl (idx_inr hx175) hA176))) ?_
                refine RQ.opd 88 rfl rfl rfl (Yld.plain (v := .pointer (ea A152 (i164.toNat * 2))) rfl (fun _ _ => (X_fieldAddrE Try.underlying64 rfl Try.inf3 rfl hA176 rfl))) ?_
                refine RQ.opd 89 rfl rfl rfl (Yld.K (v := .int .i64 x175.From) rfl (fun _ hk => (X_loadE Try.underlying3 rfl rfl (el_rd Span.ok ((hR17.keep hk).ownsl 0 rfl).1 hx175 (j := 0) rfl)))) ?_
                refine RQ.opd 90 rfl rfl rfl (Yld.plain (v := .pointer (some ⟨B2, 2, none⟩)) rfl (fun _ _ => (X_fieldAddr Try.underlying66 rfl Try.inf3 rfl rfl))) ?_
                refine RQ.opd 91 rfl rfl rfl (Yld.K (v := .int .i64 p1.Tick) rfl (fun _ hk => (X_load Try.underlying3 rfl rfl (at_cell ((hR17.keep hk).blk 3 rfl) rfl)))) ?_
                refine RQ.opd 92 rfl rfl rfl (Yld.plain (v := .bool (decide (x175.From ≤ p1.Tick))) rfl (fun _ _ => (X_leq rfl rfl))) ?_
                refine RQ.opd 93 rfl rfl rfl (Yld.plain (v := .bool (decide (x175.From ≤ p1.Tick))) rfl (fun _ _ => (X_move rfl))) ?_
                refine RQ.opd 94 rfl rfl rfl (Yld.guard (v := .pointer (some ⟨B2, 2, none⟩)) rfl rfl rfl rfl (fun hg _ _ => (X_fieldAddr Try.underlying66 rfl Try.inf3 rfl rfl))) ?_
                refine RQ.opd 95 rfl rfl rfl (Yld.gK (v := .int .i64 p1.Tick) rfl rfl rfl rfl (fun hg _ hk => (X_load Try.underlying3 rfl (gb_on hg) (at_cell ((hR17.keep hk).blk 3 rfl) rfl)))) ?_
                refine RQ.opd 96 rfl rfl rfl (Yld.guard (v := .slice A152 x151.length c153) rfl rfl rfl rfl (fun hg _ _ => (X_move rfl))) ?_
                refine RQ.opd 97 rfl rfl rfl (Yld.guard (v := .int .i64 i164) rfl rfl rfl rfl (fun hg _ _ => (X_move rfl))) ?_
                refine RQ.opd 98 rfl rfl rfl (Yld.guard (v := .pointer (ea A152 (i164.toNat * 2))) rfl rfl rfl rfl (fun hg _ _ => (X_indexAddrE Try.underlying75 Try.inf64 (gb_on hg) (gb_on hg) (idx_inr hx175) hA176))) ?_
                refine RQ.opd 99 rfl rfl rfl (Yld.guard (v := .pointer (ea A152 (i164.toNat * 2 + 1))) rfl rfl rfl rfl (fun hg _ _ => (X_fieldAddrE Try.underlying64 rfl Try.inf3 (gb_on hg) hA176 rfl))) ?_
                refine RQ.opd 100 rfl rfl rfl (Yld.gK (v := .int .i64 x175.To) rfl rfl rfl rfl (fun hg _ hk => (X_loadE Try.underlying3 rfl (gb_on hg) (el_rd Span.ok ((hR17.keep hk).ownsl 0 rfl).1 hx175 (j := 1) rfl)))) ?_
                refine RQ.opd 101 rfl rfl rfl (Yld.guard (v := .bool (decide (p1.Tick < x175.To))) rfl rfl rfl rfl (fun hg _ _ => (X_lss (gb_on hg) (gb_on hg)))) ?_
                refine RQ.opd 102 rfl rfl rfl (Yld.plain (v := .bool (bif decide (x175.From ≤ p1.Tick) then decide (p1.Tick < x175.To) else false)) rfl (fun _ _ => (X_pickB rfl (fun h => gbT h) (fun _ => rfl)))) ?_
                refine RQ.nil ?_
                clear hcl hS
                intro hcl hS
                refine RD.done (by kernel_rfl) hcl hS ?_
                refine RW.cond rfl (fun hc177 => ?_) (fun hc177 => ?_)
                · replace H := brT hc177 H
                  refine RW.region ?_
                  refine q (v := .slice A152 x151.length c153) rfl (X_move rfl) ?_
                  refine q (v := .int .i64 i164) rfl (X_move rfl) ?_
                  refine q (v := .pointer (ea A152 (i164.toNat * 2))) rfl (X_indexAddrE Try.underlying75 Try.inf64 rfl rfl (idx_inr hx175) hA176) ?_
                  refine q (v := .pointer (ea A152 (i164.toNat * 2 + 1))) rfl (X_fieldAddrE Try.underlying64 rfl Try.inf3 rfl hA176 rfl) ?_
                  refine q (v := .int .i64 x175.To) rfl (X_loadE Try.underlying3 rfl rfl (el_rd Span.ok (hM.ownsl 0 rfl).1 hx175 (j := 1) rfl)) ?_
                  refine q (v := .int .i64 x175.To) rfl (X_assign rfl) ?_
                  refine RL.nil ?_
                  refine RW.region ?_
                  refine q (v := .int .i64 i164) rfl (X_move rfl) ?_
                  refine q (v := .int .i64 (w64 (i164 + 1))) rfl (X_addw rfl rfl) ?_
                  refine q (v := .int .i64 (w64 (i164 + 1))) rfl (X_assign rfl) ?_
                  refine RL.nil ?_
                  exact ⟨gk3, Nat.lt_succ_self _, x175.To, w64 (i164 + 1), rfl, rfl, rfl, rfl, rfl, rfl, hM.sel [0, 1, 2, 3, 4] rfl rfl, H⟩
                · replace H := brF hc177 H
                  refine RW.skip ?_
                  refine RW.region ?_
                  refine q (v := .int .i64 i164) rfl (X_move rfl) ?_
                  refine q (v := .int .i64 (w64 (i164 + 1))) rfl (X_addw rfl rfl) ?_
                  refine q (v := .int .i64 (w64 (i164 + 1))) rfl (X_assign rfl) ?_
                  refine RL.nil ?_
                  exact ⟨gk3, Nat.lt_succ_self _, i163, w64 (i164 + 1), rfl, rfl, rfl, rfl, rfl, rfl, hM.sel [0, 1, 2, 3, 4] rfl rfl, H⟩
              · replace H := brF hc173 H
                refine RW.exit ?_
                refine RW.seq ?_
                refine RW.region ?_
                refine q (v := .int .i64 0) rfl (X_assign rfl) ?_
                refine RL.nil ?_
                refine RW.seq ?_
                refine RW.region ?_
                refine q (v := .pointer (some ⟨B2, 3, none⟩)) rfl (X_fieldAddr Try.underlying66 rfl Try.inf64 rfl rfl) ?_
                refine q (v := .agg #[.int .i64 p1.Of.From, .int .i64 p1.Of.To]) rfl (X_loadAgg [.int .i64 p1.Of.From, .int .i64 p1.Of.To] Try.underlying64 rfl Try.inf64 rfl (at_cells (hM.blk 3 rfl) rfl)) ?_
                refine RL.ex rfl (S_lit1 hM Span.E Span.ok p1.Of Try.underlying75 Try.inf64 rfl rfl rfl rfl) ⟨rfl, rfl⟩ ?_
                rintro _ w178 ⟨A179, c180, rfl, hM, hK⟩
                obtain ⟨x181, hx181, H⟩ := bnd_out H
                refine RL.call rfl (X_callF Try.en25 rfl) ⟨rfl, rfl⟩ (ref09_Make_any _ A179 c180 ([p1.Of]) none 0 [] 0 (hM.ownsl 0 rfl) SL.nil hx181) ?_
                rintro _ w185 ⟨_, rfl, hO184, hK⟩
                refine ⟨_, rfl, ?_⟩
                obtain ⟨A182, c183, rfl, hM⟩ := hM.addOwn hK hO184
                refine q (v := .slice A182 x181.length c183) rfl (X_assign rfl) ?_
                refine RL.nil ?_
                refine RW.seq ?_
                refine RW.seq ?_
                refine RW.region ?_
                refine q (v := .int .i64 0) rfl (X_assign rfl) ?_
                refine RL.nil ?_
                refine RW.block ?_
                refine RW.loop (fun gk φ wr => ∃ (i210 : Int) (A211 : Option Addr) (c212 : Nat) (l213 : List Span) (i214 : Int), φ 0 = .slice A0_ p0.length c0_ ∧ φ 3 = .pointer (some ⟨B2, 0, none⟩) ∧ φ 5 = .pointer (some ⟨B5, 0, none⟩) ∧ φ 7 = .slice A152 x151.length c153 ∧ φ 8 = .int .i64 i163 ∧ φ 10 = .int .i64 i210 ∧ φ 11 = .slice A211 l213.length c212 ∧ φ 12 = .int .i64 i214 ∧ SH none_ w wr [.own 64 2 A211 c212 l213 Span.E, .own 64 2 A152 c153 x151 Span.E, .blk B5 [.map r54] 70, .mpr r54 G56 (Value.int .i64) 64 2 Span.E m55 none, .blk B2 [.int .i64 p1.Car, .int .i64 p1.Cars, .int .i64 p1.Tick, .int .i64 p1.Of.From, .int .i64 p1.Of.To] 66, .sl A0_ c0_ p0 Law68_Op.E] ∧ law68_RotaPlays_l4 p0 p1 m55 x151 i163 gk i210 l213 i214 = some y) N0 ?_ ?_
                · exact ⟨0, A182, c183, x181, 0, rfl, rfl, rfl, rfl, rfl, rfl, rfl, rfl, hM.sel [0, 2, 3, 4, 5, 6] rfl rfl, H⟩
                · rintro gk4 φ w239 ⟨i210, A211, c212, l213, i214, h_0, h_3, h_5, h_7, h_8, h_10, h_11, h_12, hM, H⟩
                  obtain ⟨φ0, rfl⟩ : ∃ φ0, φ = upd (upd (upd (upd (upd (upd (upd (upd φ0 0 (.slice A0_ p0.length c0_)) 3 (.pointer (some ⟨B2, 0, none⟩))) 5 (.pointer (some ⟨B5, 0, none⟩))) 7 (.slice A152 x151.length c153)) 8 (.int .i64 i163)) 10 (.int .i64 i210)) 11 (.slice A211 l213.length c212)) 12 (.int .i64 i214) := ⟨φ, by rw [upd_of h_0, upd_of h_3, upd_of h_5, upd_of h_7, upd_of h_8, upd_of h_10, upd_of h_11, upd_of h_12]⟩
                  clear h_0 h_3 h_5 h_7 h_8 h_10 h_11 h_12
                  cases gk4 with
                  | zero => exact (no_out H).elim
                  | succ gk4 =>
                    replace H : law68_RotaPlays_l4_b p0 p1 m55 x151 i163 (law68_RotaPlays_l4 p0 p1 m55 x151 i163 gk4) i210 l213 i214 = some y := H
                    unfold law68_RotaPlays_l4_b at H
                    refine RW.seq ?_
                    refine RW.seq ?_
                    refine RW.region ?_
                    refine q (v := .int .i64 i214) rfl (X_move rfl) ?_
                    refine q (v := .pointer (some ⟨B2, 1, none⟩)) rfl (X_fieldAddr Try.underlying66 rfl Try.inf3 rfl rfl) ?_
                    refine q (v := .int .i64 p1.Cars) rfl (X_load Try.underlying3 rfl rfl (at_cell (hM.blk 4 rfl) rfl)) ?_
                    refine q (v := .bool (decide (i214 < p1.Cars))) rfl (X_lss rfl rfl) ?_
                    refine q (v := .bool (decide (i214 < p1.Cars))) rfl (X_move rfl) ?_
                    refine RL.gopd (v := .int .i64 i214) 117 rfl rfl rfl rfl (fun hg => (X_move rfl)) rfl rfl ?_
                    refine RL.gopd (v := .bool (decide (i214 < 16))) 118 rfl rfl rfl rfl (fun hg => (X_lss (gb_on hg) rfl)) rfl rfl ?_
                    refine q (v := .bool (bif decide (i214 < p1.Cars) then decide (i214 < 16) else false)) rfl (X_pickB rfl (fun h => gbT h) (fun _ => rfl)) ?_
                    refine RL.nil ?_
                    refine RW.cond rfl (fun hc240 => ?_) (fun hc240 => ?_)
                    · replace H := brT hc240 H
                      refine RW.skip ?_
                      refine RW.seq ?_
                      refine RW.block ?_
                      refine RW.seq ?_
                      refine RW.region ?_
                      refine q (v := .slice A0_ p0.length c0_) rfl (X_move rfl) ?_
                      refine q (v := .int .i64 i214) rfl (X_move rfl) ?_
                      obtain ⟨x241, hx241, H⟩ := bnd_out H
                      refine RL.call rfl (X_callF Try.en24 rfl) ⟨rfl, rfl⟩ (law68_row_any _ A0_ c0_ p0 i214 (hM.sl 5 rfl) hx241) ?_
                      rintro _ w245 ⟨_, rfl, hO244, hK⟩
                      refine ⟨_, rfl, ?_⟩
                      obtain ⟨A242, c243, rfl, hM⟩ := hM.addOwn hK hO244
                      refine q (v := .slice A242 x241.length c243) rfl (X_assign rfl) ?_
                      refine RL.nil ?_
                      refine RW.seq ?_
                      refine RW.seq ?_
                      refine RW.region ?_
                      refine q (v := .slice A242 x241.length c243) rfl (X_move rfl) ?_
                      refine q (v := .pointer (some ⟨B2, 2, none⟩)) rfl (X_fieldAddr Try.underlying66 rfl Try.inf3 rfl rfl) ?_
                      refine q (v := .int .i64 p1.Tick) rfl (X_load Try.underlying3 rfl rfl (at_cell (hM.blk 5 rfl) rfl)) ?_
                      obtain ⟨x246, hx246, H⟩ := bnd_out H
                      refine RL.call rfl (X_callF Try.en26 rfl) ⟨rfl, rfl⟩ (ref09_Has_any _ A242 c243 x241 p1.Tick (hM.ownsl 0 rfl) hx246) ?_
                      rintro _ w247 ⟨_, rfl, rfl, hK⟩
                      refine ⟨_, rfl, ?_⟩
                      replace hM := hM.keep hK
                      refine q (v := .bool (!x246)) rfl (X_not rfl) ?_
                      refine RL.nil ?_
                      refine RW.cond rfl (fun hc248 => ?_) (fun hc248 => ?_)
                      · replace H := brT hc248 H
                        refine RW.region ?_
                        refine q (v := .int .i64 i210) rfl (X_move rfl) ?_
                        refine q (v := .int .i64 (w64 (i210 + 1))) rfl (X_addw rfl rfl) ?_
                        refine q (v := .int .i64 (w64 (i210 + 1))) rfl (X_assign rfl) ?_
                        refine RL.nil ?_
                        refine RW.region ?_
                        refine q (v := .slice A211 l213.length c212) rfl (X_move rfl) ?_
                        refine q (v := .slice A242 x241.length c243) rfl (X_move rfl) ?_
                        obtain ⟨x249, hx249, H⟩ := bnd_out H
                        refine RL.call rfl (X_callF Try.en25 rfl) ⟨rfl, rfl⟩ (ref09_Make_any _ A211 c212 l213 A242 c243 x241 1 (hM.ownsl 1 rfl) (hM.ownsl 0 rfl) hx249) ?_
                        rintro _ w253 ⟨_, rfl, hO252, hK⟩
                        refine ⟨_, rfl, ?_⟩
                        obtain ⟨A250, c251, rfl, hM⟩ := hM.addOwn hK hO252
                        refine q (v := .slice A250 x249.length c251) rfl (X_assign rfl) ?_
                        refine RL.nil ?_
                        refine RW.region ?_
                        refine q (v := .int .i64 i214) rfl (X_move rfl) ?_
                        refine q (v := .int .i64 (w64 (i214 + 1))) rfl (X_addw rfl rfl) ?_
                        refine q (v := .int .i64 (w64 (i214 + 1))) rfl (X_assign rfl) ?_
                        refine RL.nil ?_
                        exact ⟨gk4, Nat.lt_succ_self _, w64 (i210 + 1), A250, c251, x249, w64 (i214 + 1), rfl, rfl, rfl, rfl, rfl, rfl, rfl, rfl, hM.sel [0, 3, 4, 5, 6, 7] rfl rfl, H⟩
                      · replace H := brF hc248 H
                        refine RW.skip ?_
                        refine RW.region ?_
                        refine q (v := .slice A211 l213.length c212) rfl (X_move rfl) ?_
                        refine q (v := .slice A242 x241.length c243) rfl (X_move rfl) ?_
                        obtain ⟨x254, hx254, H⟩ := bnd_out H
                        refine RL.call rfl (X_callF Try.en25 rfl) ⟨rfl, rfl⟩ (ref09_Make_any _ A211 c212 l213 A242 c243 x241 1 (hM.ownsl 1 rfl) (hM.ownsl 0 rfl) hx254) ?_
                        rintro _ w258 ⟨_, rfl, hO257, hK⟩
                        refine ⟨_, rfl, ?_⟩
                        obtain ⟨A255, c256, rfl, hM⟩ := hM.addOwn hK hO257
                        refine q (v := .slice A255 x254.length c256) rfl (X_assign rfl) ?_
                        refine RL.nil ?_
                        refine RW.region ?_
                        refine q (v := .int .i64 i214) rfl (X_move rfl) ?_
                        refine q (v := .int .i64 (w64 (i214 + 1))) rfl (X_addw rfl rfl) ?_
                        refine q (v := .int .i64 (w64 (i214 + 1))) rfl (X_assign rfl) ?_
                        refine RL.nil ?_
                        exact ⟨gk4, Nat.lt_succ_self _, i210, A255, c256, x254, w64 (i214 + 1), rfl, rfl, rfl, rfl, rfl, rfl, rfl, rfl, hM.sel [0, 3, 4, 5, 6, 7] rfl rfl, H⟩
                    · replace H := brF hc240 H
                      refine RW.exit ?_
                      refine RW.seq ?_
                      refine RW.drawK Try.mixed (fun w259 hw hcl hS => ?_)
                      have hM := hM.keep (show Keeps none_ w239 w259 by rw [hw]; exact Keeps.drew _ _)
                      clear hw
                      have hR28 := hM
                      have hKr := Keeps.refl none_ w259
                      refine RD.takesK (by kernel_rfl) [0, 1, 2, 3, 4, 6, 7, 8] 38 rfl (by kernel_rfl) hcl hS ?_
                      refine RQ.opd 135 rfl rfl rfl (Yld.plain (v := .pointer (some ⟨B5, 0, none⟩)) rfl (fun _ _ => (X_move rfl))) ?_
                      refine RQ.opd 136 rfl rfl rfl (Yld.plain (v := .pointer (some ⟨B2, 0, none⟩)) rfl (fun _ _ => (X_fieldAddr Try.underlying66 rfl Try.inf3 rfl rfl))) ?_
                      refine RQ.opd 137 rfl rfl rfl (Yld.K (v := .int .i64 p1.Car) rfl (fun _ hk => (X_load Try.underlying3 rfl rfl (at_cell ((hR28.keep hk).blk 4 rfl) rfl)))) ?_
                      refine RQ.opd 138 rfl rfl rfl (Yld.plain (v := .pointer (some ⟨B2, 2, none⟩)) rfl (fun _ _ => (X_fieldAddr Try.underlying66 rfl Try.inf3 rfl rfl))) ?_
                      refine RQ.opd 139 rfl rfl rfl (Yld.K (v := .int .i64 p1.Tick) rfl (fun _ hk => (X_load Try.underlying3 rfl rfl (at_cell ((hR28.keep hk).blk 4 rfl) rfl)))) ?_
                      refine RQ.opd 141 rfl rfl rfl (Yld.plain (v := .slice A152 x151.length c153) rfl (fun _ _ => (X_move rfl))) ?_
                      refine RQ.opd 142 rfl rfl rfl (Yld.plain (v := .pointer (some ⟨B2, 2, none⟩)) rfl (fun _ _ => (X_fieldAddr Try.underlying66 rfl Try.inf3 rfl rfl))) ?_
                      refine RQ.opd 143 rfl rfl rfl (Yld.K (v := .int .i64 p1.Tick) rfl (fun _ hk => (X_load Try.underlying3 rfl rfl (at_cell ((hR28.keep hk).blk 4 rfl) rfl)))) ?_
                      refine RQ.nil ?_
                      clear hcl hS
                      intro hcl hS
                      refine RD.one (i := 5) rfl (by kernel_rfl) hcl hS ?_
                      obtain ⟨x260, hx260, H⟩ := bnd_out H
                      refine RD.calls (by kernel_rfl) hcl rfl rfl (X_callF Try.en27 rfl) ⟨rfl, rfl⟩ (rota_Serves_any _ (Rota_Rota.mk m55) B5 r54 G56 p1.Car p1.Tick (hM.blk 2 rfl) (hM.mpr 3 rfl) hx260) ?_
                      rintro _ w261 ⟨_, rfl, rfl, hK⟩
                      refine ⟨_, rfl, SK.next hS hK, ?_⟩
                      clear hcl hS
                      intro hcl hS
                      replace hM := hM.keep hK
                      replace hKr := hKr.trans hK
                      refine RD.one (i := 9) rfl (by kernel_rfl) hcl hS ?_
                      obtain ⟨x262, hx262, H⟩ := bnd_out H
                      refine RD.calls (by kernel_rfl) hcl rfl rfl (X_callF Try.en26 rfl) ⟨rfl, rfl⟩ (ref09_Has_any _ A152 c153 x151 p1.Tick (hM.ownsl 1 rfl) hx262) ?_
                      rintro _ w263 ⟨_, rfl, rfl, hK⟩
                      refine ⟨_, rfl, SK.next hS hK, ?_⟩
                      clear hcl hS
                      intro hcl hS
                      replace hM := hM.keep hK
                      replace hKr := hKr.trans hK
                      refine RD.takesK (by kernel_rfl) [10, 11, 12, 13, 14, 15, 16, 17, 19] 27 rfl (by kernel_rfl) hcl hS ?_
                      refine RQ.opd 145 rfl rfl rfl (Yld.plain (v := .bool (!x262)) rfl (fun _ _ => (X_not rfl))) ?_
                      refine RQ.opd 146 rfl rfl rfl (Yld.plain (v := .bool (x260 == (!x262))) rfl (fun _ _ => (X_eqlB Try.underlying4 rfl rfl))) ?_
                      refine RQ.opd 147 rfl rfl rfl (Yld.plain (v := .bool (x260 == (!x262))) rfl (fun _ _ => (X_move rfl))) ?_
                      refine RQ.opd 148 rfl rfl rfl (Yld.guard (v := .pointer (some ⟨B5, 0, none⟩)) rfl rfl rfl rfl (fun hg _ _ => (X_move rfl))) ?_
                      refine RQ.opd 149 rfl rfl rfl (Yld.guard (v := .pointer (some ⟨B2, 0, none⟩)) rfl rfl rfl rfl (fun hg _ _ => (X_fieldAddr Try.underlying66 rfl Try.inf3 rfl rfl))) ?_
                      refine RQ.opd 150 rfl rfl rfl (Yld.gK (v := .int .i64 p1.Car) rfl rfl rfl rfl (fun hg _ hk => (X_load Try.underlying3 rfl (gb_on hg) (at_cell ((hR28.keep hk).blk 4 rfl) rfl)))) ?_
                      refine RQ.opd 151 rfl rfl rfl (Yld.guard (v := .pointer (some ⟨B2, 2, none⟩)) rfl rfl rfl rfl (fun hg _ _ => (X_fieldAddr Try.underlying66 rfl Try.inf3 rfl rfl))) ?_
                      refine RQ.opd 152 rfl rfl rfl (Yld.gK (v := .int .i64 p1.Tick) rfl rfl rfl rfl (fun hg _ hk => (X_load Try.underlying3 rfl (gb_on hg) (at_cell ((hR28.keep hk).blk 4 rfl) rfl)))) ?_
                      refine RQ.opd 154 rfl rfl rfl (Yld.guard (v := .int .i64 i163) rfl rfl rfl rfl (fun hg _ _ => (X_move rfl))) ?_
                      refine RQ.nil ?_
                      clear hcl hS
                      intro hcl hS
                      refine RD.one (i := 18) rfl (by kernel_rfl) hcl hS ?_
                      obtain ⟨x264, hx264, H⟩ := bnd_out H
                      refine RS.gcallp (Rv := fun v _ => v = .int .i64 x264) (by kernel_rfl) hcl rfl rfl rfl rfl rfl ⟨rfl, rfl⟩ (fun hg => (X_callF Try.en28 (congrArg List.toArray (ac (gb_on (q := (x260 == (!x262)) == true) (v := .pointer (some ⟨B5, 0, none⟩)) hg) (ac (gb_on (q := (x260 == (!x262)) == true) (v := .int .i64 p1.Car) hg) (ac (gb_on (q := (x260 == (!x262)) == true) (v := .int .i64 p1.Tick) hg) rfl)))))) (fun hg => rota_Back_any _ (Rota_Rota.mk m55) B5 r54 G56 p1.Car p1.Tick (hM.blk 2 rfl) (hM.mpr 3 rfl) (gI_out hx264 hg)) ?_
                      rintro vw265 w265 hv hK
                      refine ⟨SK.next hS hK, ?_⟩
                      clear hcl hS
                      intro hcl hS
                      rw [gb_to (v' := .int .i64 x264) hv]
                      replace hM := hM.keep hK
                      replace hKr := hKr.trans hK
                      refine RD.takesK (by kernel_rfl) [20, 21, 22, 23, 24, 25, 26, 27, 29] 17 rfl (by kernel_rfl) hcl hS ?_
                      refine RQ.opd 155 rfl rfl rfl (Yld.guard (v := .bool (decide (x264 = i163))) rfl rfl rfl rfl (fun hg _ _ => (X_eql (gb_on hg) (gb_on hg)))) ?_
                      refine RQ.opd 156 rfl rfl rfl (Yld.plain (v := .bool (bif x260 == (!x262) then decide (x264 = i163) else false)) rfl (fun _ _ => (X_pickB rfl (fun h => gbT h) (fun _ => rfl)))) ?_
                      refine RQ.opd 157 rfl rfl rfl (Yld.plain (v := .bool (bif x260 == (!x262) then decide (x264 = i163) else false)) rfl (fun _ _ => (X_move rfl))) ?_
                      refine RQ.opd 158 rfl rfl rfl (Yld.guard (v := .pointer (some ⟨B5, 0, none⟩)) rfl rfl rfl rfl (fun hg _ _ => (X_move rfl))) ?_
                      refine RQ.opd 159 rfl rfl rfl (Yld.guard (v := .pointer (some ⟨B2, 1, none⟩)) rfl rfl rfl rfl (fun hg _ _ => (X_fieldAddr Try.underlying66 rfl Try.inf3 rfl rfl))) ?_
                      refine RQ.opd 160 rfl rfl rfl (Yld.gK (v := .int .i64 p1.Cars) rfl rfl rfl rfl (fun hg _ hk => (X_load Try.underlying3 rfl (gb_on hg) (at_cell ((hR28.keep hk).blk 4 rfl) rfl)))) ?_
                      refine RQ.opd 161 rfl rfl rfl (Yld.guard (v := .pointer (some ⟨B2, 2, none⟩)) rfl rfl rfl rfl (fun hg _ _ => (X_fieldAddr Try.underlying66 rfl Try.inf3 rfl rfl))) ?_
                      refine RQ.opd 162 rfl rfl rfl (Yld.gK (v := .int .i64 p1.Tick) rfl rfl rfl rfl (fun hg _ hk => (X_load Try.underlying3 rfl (gb_on hg) (at_cell ((hR28.keep hk).blk 4 rfl) rfl)))) ?_
                      refine RQ.opd 164 rfl rfl rfl (Yld.guard (v := .int .i64 i210) rfl rfl rfl rfl (fun hg _ _ => (X_move rfl))) ?_
                      refine RQ.nil ?_
                      clear hcl hS
                      intro hcl hS
                      refine RD.one (i := 28) rfl (by kernel_rfl) hcl hS ?_
                      obtain ⟨x266, hx266, H⟩ := bnd_out H
                      refine RS.gcallp (Rv := fun v _ => v = .int .i64 x266) (by kernel_rfl) hcl rfl rfl rfl rfl rfl ⟨rfl, rfl⟩ (fun hg => (X_callF Try.en29 (congrArg List.toArray (ac (gb_on (q := (bif x260 == (!x262) then decide (x264 = i163) else false) == true) (v := .pointer (some ⟨B5, 0, none⟩)) hg) (ac (gb_on (q := (bif x260 == (!x262) then decide (x264 = i163) else false) == true) (v := .int .i64 p1.Cars) hg) (ac (gb_on (q := (bif x260 == (!x262) then decide (x264 = i163) else false) == true) (v := .int .i64 p1.Tick) hg) rfl)))))) (fun hg => rota_Many_any _ (Rota_Rota.mk m55) B5 r54 G56 p1.Cars p1.Tick (hM.blk 2 rfl) (hM.mpr 3 rfl) (gI_out hx266 hg)) ?_
                      rintro vw267 w267 hv hK
                      refine ⟨SK.next hS hK, ?_⟩
                      clear hcl hS
                      intro hcl hS
                      rw [gb_to (v' := .int .i64 x266) hv]
                      replace hM := hM.keep hK
                      replace hKr := hKr.trans hK
                      refine RD.takesK (by kernel_rfl) [30, 31, 32, 33, 34, 35, 36, 37, 39] 7 rfl (by kernel_rfl) hcl hS ?_
                      refine RQ.opd 165 rfl rfl rfl (Yld.guard (v := .bool (decide (x266 = i210))) rfl rfl rfl rfl (fun hg _ _ => (X_eql (gb_on hg) (gb_on hg)))) ?_
                      refine RQ.opd 166 rfl rfl rfl (Yld.plain (v := .bool (bif bif x260 == (!x262) then decide (x264 = i163) else false then decide (x266 = i210) else false)) rfl (fun _ _ => (X_pickB rfl (fun h => gbT h) (fun _ => rfl)))) ?_
                      refine RQ.opd 167 rfl rfl rfl (Yld.plain (v := .bool (bif bif x260 == (!x262) then decide (x264 = i163) else false then decide (x266 = i210) else false)) rfl (fun _ _ => (X_move rfl))) ?_
                      refine RQ.opd 168 rfl rfl rfl (Yld.guard (v := .pointer (some ⟨B5, 0, none⟩)) rfl rfl rfl rfl (fun hg _ _ => (X_move rfl))) ?_
                      refine RQ.opd 169 rfl rfl rfl (Yld.guard (v := .pointer (some ⟨B2, 1, none⟩)) rfl rfl rfl rfl (fun hg _ _ => (X_fieldAddr Try.underlying66 rfl Try.inf3 rfl rfl))) ?_
                      refine RQ.opd 170 rfl rfl rfl (Yld.gK (v := .int .i64 p1.Cars) rfl rfl rfl rfl (fun hg _ hk => (X_load Try.underlying3 rfl (gb_on hg) (at_cell ((hR28.keep hk).blk 4 rfl) rfl)))) ?_
                      refine RQ.opd 171 rfl rfl rfl (Yld.guard (v := .pointer (some ⟨B2, 3, none⟩)) rfl rfl rfl rfl (fun hg _ _ => (X_fieldAddr Try.underlying66 rfl Try.inf64 rfl rfl))) ?_
                      refine RQ.opd 172 rfl rfl rfl (Yld.gK (v := .agg #[.int .i64 p1.Of.From, .int .i64 p1.Of.To]) rfl rfl rfl rfl (fun hg _ hk => (X_loadAgg [.int .i64 p1.Of.From, .int .i64 p1.Of.To] Try.underlying64 rfl Try.inf64 (gb_on hg) (at_cells ((hR28.keep hk).blk 4 rfl) rfl)))) ?_
                      refine RQ.opd 174 rfl rfl rfl (Yld.guard (v := .slice A211 l213.length c212) rfl rfl rfl rfl (fun hg _ _ => (X_move rfl))) ?_
                      refine RQ.nil ?_
                      clear hcl hS
                      intro hcl hS
                      refine RD.one (i := 38) rfl (by kernel_rfl) hcl hS ?_
                      obtain ⟨x268, hx268, H⟩ := bnd_out H
                      refine RS.gcallp (Rv := fun v w' => OwnR w267 w' 64 2 Span.E v x268) (by kernel_rfl) hcl rfl rfl rfl rfl rfl ⟨rfl, rfl⟩ (fun hg => (X_callF Try.en30 (congrArg List.toArray (ac (gb_on (q := (bif bif x260 == (!x262) then decide (x264 = i163) else false then decide (x266 = i210) else false) == true) (v := .pointer (some ⟨B5, 0, none⟩)) hg) (ac (gb_on (q := (bif bif x260 == (!x262) then decide (x264 = i163) else false then decide (x266 = i210) else false) == true) (v := .int .i64 p1.Cars) hg) (ac (gb_on (q := (bif bif x260 == (!x262) then decide (x264 = i163) else false then decide (x266 = i210) else false) == true) (v := .agg #[.int .i64 p1.Of.From, .int .i64 p1.Of.To]) hg) rfl)))))) (fun hg => rota_None_any _ (Rota_Rota.mk m55) B5 r54 G56 p1.Cars p1.Of (hM.blk 2 rfl) (hM.mpr 3 rfl) (gI_out hx268 hg)) ?_
                      rintro vw272 w272 hv hK
                      refine ⟨SK.next hS hK, ?_⟩
                      clear hcl hS
                      intro hcl hS
                      obtain ⟨A269, c270, hve, hM⟩ := hM.addOwnG hK hv
                      rw [gb_to (v' := .slice A269 x268.length c270) hve]
                      replace hKr := hKr.trans hK
                      refine RD.one (i := 40) rfl (by kernel_rfl) hcl hS ?_
                      obtain ⟨x273, hx273, H⟩ := bnd_out H
                      refine RS.gcallp (Rv := fun v _ => v = .bool x273) (by kernel_rfl) hcl rfl rfl rfl rfl rfl ⟨rfl, rfl⟩ (fun hg => (X_callF Try.en22 (congrArg List.toArray (ac (gb_on (q := (bif bif x260 == (!x262) then decide (x264 = i163) else false then decide (x266 = i210) else false) == true) (v := .slice A269 x268.length c270) hg) (ac (gb_on (q := (bif bif x260 == (!x262) then decide (x264 = i163) else false then decide (x266 = i210) else false) == true) (v := .slice A211 l213.length c212) hg) rfl))))) (fun hg => equal_Span_any _ A269 c270 x268 A211 c212 l213 (sl_on hg (hM.ownsl 0 rfl)) (hM.ownsl 1 rfl) (gI_out hx273 hg)) ?_
                      rintro vw274 w274 hv hK
                      refine ⟨SK.next hS hK, ?_⟩
                      clear hcl hS
                      intro hcl hS
                      rw [gb_to (v' := .bool x273) hv]
                      replace hM := hM.keep hK
                      replace hKr := hKr.trans hK
                      refine RD.takesK (by kernel_rfl) [41, 42] 3 rfl (by kernel_rfl) hcl hS ?_
                      refine RQ.opd 176 rfl rfl rfl (Yld.plain (v := .bool (bif bif bif x260 == (!x262) then decide (x264 = i163) else false then decide (x266 = i210) else false then x273 else false)) rfl (fun _ _ => (X_pickB rfl (fun h => gbT h) (fun _ => rfl)))) ?_
                      refine RQ.opd 177 rfl rfl rfl (Yld.plain (v := .bool (bif bif bif x260 == (!x262) then decide (x264 = i163) else false then decide (x266 = i210) else false then x273 else false)) rfl (fun _ _ => (X_move rfl))) ?_
                      refine RQ.nil ?_
                      clear hcl hS
                      intro hcl hS
                      refine RD.one (i := 43) rfl (by kernel_rfl) hcl hS ?_
                      obtain ⟨x275, hx275, H⟩ := bnd_out H
                      refine RS.gcallp (Rv := fun v _ => v = .bool x275) (by kernel_rfl) hcl rfl rfl rfl rfl rfl ⟨rfl, rfl⟩ (fun hg => (X_callF Try.en31 rfl)) (fun hg => law68_alive_any _ (gI_out hx275 hg)) ?_
                      rintro vw276 w276 hv hK
                      refine ⟨SK.next hS hK, ?_⟩
                      clear hcl hS
                      intro hcl hS
                      rw [gb_to (v' := .bool x275) hv]
                      replace hM := hM.keep hK
                      replace hKr := hKr.trans hK
                      refine RD.takesK (by kernel_rfl) [44, 45] 0 rfl (by kernel_rfl) hcl hS ?_
                      refine RQ.opd 179 rfl rfl rfl (Yld.plain (v := .bool (bif bif bif bif x260 == (!x262) then decide (x264 = i163) else false then decide (x266 = i210) else false then x273 else false then x275 else false)) rfl (fun _ _ => (X_pickB rfl (fun h => gbT h) (fun _ => rfl)))) ?_
                      refine RQ.opd 4 rfl rfl rfl (Yld.plain (v := .bool (bif bif bif bif x260 == (!x262) then decide (x264 = i163) else false then decide (x266 = i210) else false then x273 else false then x275 else false)) rfl (fun _ _ => (X_assign rfl))) ?_
                      refine RQ.nil ?_
                      clear hcl hS
                      intro hcl hS
                      refine RD.done (by kernel_rfl) hcl hS ?_
                      refine RW.ret ?_
                      replace H := Option.some.inj H
                      subst H
                      refine retV1 (.inl rfl) rfl (show RV _ _ _ (.tmp 4) (.bool (bif bif bif bif x260 == (!x262) then decide (x264 = i163) else false then decide (x266 = i210) else false then x273 else false then x275 else false)) from rfl) ?_
                      exact ⟨_, rfl, rfl, hM.keeps⟩
end Go.Proofs
