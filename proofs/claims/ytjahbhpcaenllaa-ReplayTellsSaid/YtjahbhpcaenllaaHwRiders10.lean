/- Who rides, as the program tells it. -/
import Derived.Test.YtjahbhpcaenllaaHwStable
import Derived.Test.YtjahbhpcaenllaaHwSel
import Derived.Test.YtjahbhpcaenllaaHwRidersLaw2
namespace Hw.Sym
end Hw.Sym
namespace Go.Proofs
open Go.RowKit Go.Hw Hw.Sym
set_option maxRecDepth 10000 in
theorem cmp39 (bp gm : Nat) (ks : List (Int × Int)) (a b fa fb : Int) (w : World) (h1 : At w bp (.cells #[.map (some gm)] 104)) (h2 : MapAt w gm ks) (ha : lkp ks a = some fa) (hb : lkp ks b = some fb) (hd : -9223372036854775808 ≤ fa - fb ∧ fa - fb ≤ 9223372036854775807) :
    Calls Try.prog 39 #[.int .i64 a, .int .i64 b, .pointer (some ⟨bp, 0, none⟩)] w fun e w' => e = .returned (.int .i64 (fa - fb)) ∧ w = w' := by
  refine calls_of_RW Try.func39 rfl (Nat.le_of_ble_eq_true rfl) ?_
  refine RW.seq ?_
  refine RW.region ?_
  refine RL.opd (v := .int .i64 0) 5 rfl rfl rfl (X_assign rfl) ?_
  refine RL.nil ?_
  refine RW.seq ?_
  refine RW.region ?_
  refine RL.opd (v := .map (some gm)) 6 rfl rfl rfl (X_load Try.underlying104 rfl rfl (h1.cell _)) ?_
  refine RL.opd (v := .int .i64 a) 7 rfl rfl rfl (X_move rfl) ?_
  refine RL.opd (v := .int .i64 fa) 8 rfl rfl rfl (X_lookup Try.underlying104 Try.underlying3 rfl rfl h2 ha) ?_
  refine RL.opd (v := .map (some gm)) 9 rfl rfl rfl (X_load Try.underlying104 rfl rfl (h1.cell _)) ?_
  refine RL.opd (v := .int .i64 b) 10 rfl rfl rfl (X_move rfl) ?_
  refine RL.opd (v := .int .i64 fb) 11 rfl rfl rfl (X_lookup Try.underlying104 Try.underlying3 rfl rfl h2 hb) ?_
  refine RL.opd (v := .int .i64 ((fa : Int) - fb)) 12 rfl rfl rfl (X_sub rfl rfl hd rfl) ?_
  refine RL.opd (v := .int .i64 ((fa : Int) - fb)) 5 rfl rfl rfl (X_assign rfl) ?_
  refine RL.nil ?_
  refine RW.ret ?_
  exact ret1 (.inl rfl) rfl ⟨rfl, rfl⟩

set_option maxRecDepth 10000 in
theorem insertion0 (A : Option Addr) (c : Nat) (cv : Value) (w : World) : Calls Try.prog 96 #[.slice A 0 c, .int .i64 0, .int .i64 0, cv] w fun e w' => e = .returned (.tuple #[]) ∧ w = w' := by
  refine calls_of_RW Try.func96 rfl (Nat.le_of_ble_eq_true rfl) ?_
  refine RW.seq ?_
  refine RW.region ?_
  refine RL.opd (v := .int .i64 0) 10 rfl rfl rfl (X_move rfl) ?_
  refine RL.opd (v := .int .i64 1) 11 rfl rfl rfl (X_add rfl rfl (by omega) rfl) ?_
  refine RL.opd (v := .int .i64 1) 8 rfl rfl rfl (X_assign rfl) ?_
  refine RL.nil ?_
  refine RW.block ?_
  refine RW.loop (fun gk φ wr => (φ 0 = .slice A 0 c ∧ φ 1 = .int .i64 0 ∧ φ 2 = .int .i64 0 ∧ φ 3 = cv) ∧ ∃ (_u : Unit), φ 8 = .int .i64 1 ∧ w = wr) 0 ?_ ?_
  · exact ⟨⟨rfl, rfl, rfl, rfl⟩, (), rfl, rfl⟩
  · rintro gk1 φ wr1 ⟨⟨h_0, h_1, h_2, h_3⟩, _u, h_8, rfl⟩
    obtain ⟨φ0, rfl⟩ : ∃ φ0, φ = upd (upd (upd (upd (upd φ0 0 (.slice A 0 c)) 1 (.int .i64 0)) 2 (.int .i64 0)) 3 (cv)) 8 (.int .i64 1) := ⟨φ, by rw [upd_of h_0, upd_of h_1, upd_of h_2, upd_of h_3, upd_of h_8]⟩
    clear h_0 h_1 h_2 h_3 h_8
    refine RW.seq ?_
    refine RW.seq ?_
    refine RW.region ?_
    refine RL.opd (v := .int .i64 1) 12 rfl rfl rfl (X_move rfl) ?_
    refine RL.opd (v := .int .i64 0) 13 rfl rfl rfl (X_move rfl) ?_
    refine RL.opd (v := .bool (decide ((1 : Int) < 0))) 14 rfl rfl rfl (X_lss rfl rfl) ?_
    refine RL.nil ?_
    refine RW.cond_false rfl ?_
    refine RW.exit ?_
    exact ret0 (.inr rfl) rfl ⟨rfl, rfl⟩

set_option maxRecDepth 10000 in
theorem stable0 (A : Option Addr) (c : Nat) (cv : Value) (w : World) : Calls Try.prog 69 #[.slice A 0 c, .int .i64 0, cv] w fun e w' => e = .returned (.tuple #[]) ∧ w = w' := by
  refine calls_of_RW Try.func69 rfl (Nat.le_of_ble_eq_true rfl) ?_
  refine RW.seq ?_
  refine RW.region ?_
  refine RL.opd (v := .int .i64 20) 6 rfl rfl rfl (X_assign rfl) ?_
  refine RL.nil ?_
  refine RW.seq ?_
  refine RW.region ?_
  refine RL.opd (v := .int .i64 20) 10 rfl rfl rfl (X_move rfl) ?_
  refine RL.opd (v := .int .i64 0) 7 rfl rfl rfl (X_assign rfl) ?_
  refine RL.opd (v := .int .i64 20) 8 rfl rfl rfl (X_assign rfl) ?_
  refine RL.nil ?_
  refine RW.seq ?_
  refine RW.block ?_
  refine RW.loop (fun gk φ wr => (φ 0 = .slice A 0 c ∧ φ 1 = .int .i64 0 ∧ φ 2 = cv ∧ φ 6 = .int .i64 20) ∧ ∃ (_u : Unit), φ 7 = .int .i64 0 ∧ φ 8 = .int .i64 20 ∧ w = wr) 0 ?_ ?_
  · exact ⟨⟨rfl, rfl, rfl, rfl⟩, (), rfl, rfl, rfl⟩
  · rintro gk1 φ wr1 ⟨⟨h_0, h_1, h_2, h_6⟩, _u, h_7, h_8, rfl⟩
    obtain ⟨φ0, rfl⟩ : ∃ φ0, φ = upd (upd (upd (upd (upd (upd φ0 0 (.slice A 0 c)) 1 (.int .i64 0)) 2 (cv)) 6 (.int .i64 20)) 7 (.int .i64 0)) 8 (.int .i64 20) := ⟨φ, by rw [upd_of h_0, upd_of h_1, upd_of h_2, upd_of h_6, upd_of h_7, upd_of h_8]⟩
    clear h_0 h_1 h_2 h_6 h_7 h_8
    refine RW.seq ?_
    refine RW.seq ?_
    refine RW.region ?_
    refine RL.opd (v := .int .i64 20) 11 rfl rfl rfl (X_move rfl) ?_
    refine RL.opd (v := .int .i64 0) 12 rfl rfl rfl (X_move rfl) ?_
    refine RL.opd (v := .bool (decide ((20 : Int) ≤ 0))) 13 rfl rfl rfl (X_leq rfl rfl) ?_
    refine RL.nil ?_
    refine RW.cond_false rfl ?_
    refine RW.exit ?_
    refine RW.seq ?_
    refine RW.region ?_
    refine RL.opd (v := .slice A 0 c) 23 rfl rfl rfl (X_move rfl) ?_
    refine RL.opd (v := .int .i64 0) 24 rfl rfl rfl (X_move rfl) ?_
    refine RL.opd (v := .int .i64 0) 25 rfl rfl rfl (X_move rfl) ?_
    refine RL.opd (v := cv) 26 rfl rfl rfl (X_move rfl) ?_
    refine RL.call rfl (X_callF Try.en96 rfl) ⟨rfl, rfl⟩ (insertion0 A c cv w) ?_
    rintro e1 w ⟨rfl, rfl⟩
    refine ⟨_, rfl, ?_⟩
    refine RL.nil ?_
    refine RW.block ?_
    refine RW.loop (fun gk φ wr => (φ 0 = .slice A 0 c ∧ φ 1 = .int .i64 0 ∧ φ 2 = cv) ∧ ∃ (_u : Unit), φ 6 = .int .i64 20 ∧ w = wr) 0 ?_ ?_
    · exact ⟨⟨rfl, rfl, rfl⟩, (), rfl, rfl⟩
    · rintro gk2 φ wr2 ⟨⟨h_0, h_1, h_2⟩, _u, h_6, rfl⟩
      obtain ⟨φ0, rfl⟩ : ∃ φ0, φ = upd (upd (upd (upd φ0 0 (.slice A 0 c)) 1 (.int .i64 0)) 2 (cv)) 6 (.int .i64 20) := ⟨φ, by rw [upd_of h_0, upd_of h_1, upd_of h_2, upd_of h_6]⟩
      clear h_0 h_1 h_2 h_6
      refine RW.seq ?_
      refine RW.seq ?_
      refine RW.region ?_
      refine RL.opd (v := .int .i64 20) 28 rfl rfl rfl (X_move rfl) ?_
      refine RL.opd (v := .int .i64 0) 29 rfl rfl rfl (X_move rfl) ?_
      refine RL.opd (v := .bool (decide ((20 : Int) < 0))) 30 rfl rfl rfl (X_lss rfl rfl) ?_
      refine RL.nil ?_
      refine RW.cond_false rfl ?_
      refine RW.exit ?_
      exact ret0 (.inr rfl) rfl ⟨rfl, rfl⟩

set_option maxRecDepth 10000 in
theorem sort0 (A : Option Addr) (c : Nat) (cv : Value) (w : World) : Calls Try.prog 38 #[.slice A 0 c, cv] w fun e w' => e = .returned (.tuple #[]) ∧ w = w' := by
  refine calls_of_RW Try.func38 rfl (Nat.le_of_ble_eq_true rfl) ?_
  refine RW.region ?_
  refine RL.opd (v := .slice A 0 c) 4 rfl rfl rfl (X_move rfl) ?_
  refine RL.opd (v := .slice A 0 c) 5 rfl rfl rfl (X_move rfl) ?_
  refine RL.opd (v := .int .i64 0) 6 rfl rfl rfl (X_len Try.underlying27 rfl) ?_
  refine RL.opd (v := cv) 7 rfl rfl rfl (X_move rfl) ?_
  refine RL.call rfl (X_callF Try.en69 rfl) ⟨rfl, rfl⟩ (stable0 A c cv w) ?_
  rintro e1 w ⟨rfl, rfl⟩
  refine ⟨_, rfl, ?_⟩
  refine RL.nil ?_
  exact ret0 (.inr rfl) rfl ⟨rfl, rfl⟩

theorem sort_own (v pt : Value) (n : Nat) (f : Int → Int) (S : Int → Prop) (xs : List Int) (w : World) (hn : n ≤ 1000000) (hown : w.ownsRow 0 3 1 v n (ints xs)) (hxs : xs.Pairwise (· < ·)) (hS : ∀ x ∈ xs, S x) (hC : ∀ g, v.ownBlock = some g → CmpOk Try.prog 39 pt g f S w) :
    Calls Try.prog 38 #[v, .func (.func 39) #[] #[pt]] w fun e w' => ∃ ys, e = .returned (.tuple #[]) ∧ SortOf f xs ys ∧ w'.ownsRow 0 3 1 v n (ints ys) ∧ Keeps (fun k => v.ownBlock = some k) w w' := by
  obtain ⟨hl, ⟨rfl, rfl⟩ | ⟨g, cap, rest, rfl, hat, hback⟩⟩ := owns_open hown
  · refine (sort0 none 0 _ w).mono fun e w' h => ?_
    obtain ⟨rfl, rfl⟩ := h
    have : xs = [] := List.eq_nil_of_length_eq_zero hl
    subst this
    exact ⟨[], rfl, ⟨by simp, by simp⟩, hown, Keeps.refl _ _⟩
  · refine (sortStable_any g n cap pt f S xs rest w hn hl hxs hS (hC g rfl) hat).mono fun e w' h => ?_
    obtain ⟨ys, rfl, h2, h3, h4⟩ := h
    exact ⟨ys, rfl, h2, hback w' ys h2.len h3, h4.mono fun k hk => by rw [hk]; rfl⟩

set_option maxRecDepth 10000 in
theorem riders10 (A A2 : Option Addr) (cap n2 c2 : Nat) (used : Int) (l : List Trip) (w : World) (car tick : Int) (hn : l.length ≤ 1000000) (hid : ∀ i (h : i < l.length), l[i].id = i) (hbr : ∀ i (h : i < l.length), -1073741824 ≤ l[i].board ∧ l[i].board ≤ 1073741824) (hT : Row w A (l.flatMap Trip.enc)) :
    Calls Try.prog 10 #[.agg #[.slice A l.length cap, .slice A2 n2 c2, .int .i64 used], .int .i64 car, .int .i64 tick] w fun e w' => ∃ v, e = .returned v ∧ w'.ownsRow 0 3 1 v (ridK l car tick l.length).length (ints (ridK l car tick l.length)) ∧ Keeps none_ w w' ∧ (∀ g, v.ownBlock = some g → w.heap.size ≤ g) := by
  refine calls_of_RW Try.func10 rfl (Nat.le_of_ble_eq_true rfl) ?_
  refine RW.seq ?_
  refine RW.region ?_
  refine RL.box (v := .agg #[.slice A l.length cap, .slice A2 n2 c2, .int .i64 used]) rfl rfl rfl ⟨rfl, rfl⟩ (fun B1 w2 ge5 hB4 K3 => ?_)
  have gb_B1 : w.heap.size ≤ B1 := ge5
  have sz6 := K3.size
  refine RL.opd (v := .slice none 0 0) 6 rfl rfl rfl (X_assign rfl) ?_
  refine RL.nil ?_
  refine RW.seq ?_
  refine RW.region ?_
  refine RL.opd (v := .pointer (some ⟨B1, 0, none⟩)) 11 rfl rfl rfl (X_fieldAddr Try.underlying25 rfl Try.inf22 rfl rfl) ?_
  refine RL.opd (v := .slice A l.length cap) 12 rfl rfl rfl (X_load Try.underlying22 rfl rfl (hB4.cell _)) ?_
  refine RL.opd (v := .int .i64 car) 13 rfl rfl rfl (X_move rfl) ?_
  refine RL.opd (v := .int .i64 tick) 14 rfl rfl rfl (X_move rfl) ?_
  refine RL.call rfl (X_callF Try.en37 rfl) ⟨rfl, rfl⟩ (load_any A cap l w2 car tick hn (hT.keep K3 (apart_none _))) ?_
  rintro e8 w7 ⟨v, rfl, hown, hK1, hge1⟩
  refine ⟨_, rfl, ?_⟩
  have sz9 := hK1.size
  replace hB4 := hK1.at_ hB4 (fun h => h)
  have KK10 := K3.trans hK1
  have hge : ∀ g, v.ownBlock = some g → w.heap.size ≤ g := fun g hg => Nat.le_trans K3.size (hge1 g hg)
  refine RL.opd (v := v) 7 rfl rfl rfl (X_assign rfl) ?_
  refine RL.nil ?_
  refine RW.seq ?_
  refine RW.region ?_
  refine RL.makeMap rfl rfl ⟨rfl, rfl⟩ (fun gm w11 ge14 hB13 K12 => ?_)
  have gb_gm : w.heap.size ≤ gm := Nat.le_trans KK10.size ge14
  have ne15 : B1 ≠ gm := by have := hB4.lt; omega
  have ne_v_gm : ∀ g, Value.ownBlock (v) = some g → g ≠ gm := fun g hg => by have := owns_lt hown g hg; omega
  have sz16 := K12.size
  replace hB4 := K12.at_ hB4 (fun h => h)
  replace hown := K12.owns hown (fun _ _ h => h)
  have KK17 := KK10.trans K12
  refine RL.alloc rfl rfl Try.inf104 ⟨rfl, rfl⟩ (fun B18 w19 ge22 hB21 K20 => ?_)
  have gb_B18 : w.heap.size ≤ B18 := Nat.le_trans KK17.size ge22
  have ne23 : B1 ≠ B18 := by have := hB4.lt; omega
  have ne24 : gm ≠ B18 := by have := hB13.lt; omega
  have ne_v_B18 : ∀ g, Value.ownBlock (v) = some g → g ≠ B18 := fun g hg => by have := owns_lt hown g hg; omega
  have sz25 := K20.size
  replace hB4 := K20.at_ hB4 (fun h => h)
  replace hB13 := K20.at_ hB13 (fun h => h)
  replace hown := K20.owns hown (fun _ _ h => h)
  have KK26 := KK17.trans K20
  refine RL.storeAt (v := .map (some gm)) rfl rfl rfl Try.inf104 rfl rfl rfl rfl hB21 (Nat.le_of_ble_eq_true rfl) (fun w27 hB29 K28 => ?_)
  try (rw [splice_all rfl] at hB29)
  replace hB4 := K28.at_ hB4 (by intro h; exact absurd h (by omega))
  replace hB13 := K28.at_ hB13 (by intro h; exact absurd h (by omega))
  replace hown := K28.owns hown (fun g hg h => ne_v_B18 g hg h)
  have KK30 := KK26.trans_new K28 (fun i hi h => absurd h (by omega))
  refine RL.nil ?_
  refine RW.seq ?_
  refine RW.seq ?_
  refine RW.region ?_
  refine RL.opd (v := .pointer (some ⟨B1, 0, none⟩)) 17 rfl rfl rfl (X_fieldAddr Try.underlying25 rfl Try.inf22 rfl rfl) ?_
  refine RL.opd (v := .slice A l.length cap) 18 rfl rfl rfl (X_load Try.underlying22 rfl rfl (hB4.cell _)) ?_
  refine RL.opd (v := .int .i64 (l.length : Nat)) 19 rfl rfl rfl (X_len Try.underlying22 rfl) ?_
  refine RL.opd (v := .int .i64 0) 20 rfl rfl rfl (X_move rfl) ?_
  refine RL.nil ?_
  refine RW.block ?_
  refine RW.loop (fun gk φ wr => (φ 1 = .int .i64 car ∧ φ 2 = .int .i64 tick ∧ φ 7 = v ∧ φ 8 = .pointer (some ⟨B18, 0, none⟩) ∧ φ 18 = .slice A l.length cap ∧ φ 19 = .int .i64 (l.length : Nat)) ∧ ∃ (k : Nat), φ 20 = .int .i64 (k : Nat) ∧ k ≤ l.length ∧ gk + k = l.length ∧ wr.ownsRow 0 3 1 v (sel (loadB car tick) l).length (ints (sel (loadB car tick) l)) ∧ At wr B18 (.cells #[.map (some gm)] 104) ∧ MapAt wr gm (brs (l.take k)) ∧ Keeps none_ w wr) l.length ?_ ?_
  · exact ⟨⟨rfl, rfl, rfl, rfl, rfl, rfl⟩, 0, rfl, Nat.zero_le _, rfl, hown, hB29, hB13, KK30⟩
  · rintro gk1 φ wr1 ⟨⟨h_1, h_2, h_7, h_8, h_18, h_19⟩, k, h_20, hk, hgk, hown, hbp, hgm, hK⟩
    obtain ⟨φ0, rfl⟩ : ∃ φ0, φ = upd (upd (upd (upd (upd (upd (upd φ0 1 (.int .i64 car)) 2 (.int .i64 tick)) 7 (v)) 8 (.pointer (some ⟨B18, 0, none⟩))) 18 (.slice A l.length cap)) 19 (.int .i64 (l.length : Nat))) 20 (.int .i64 (k : Nat)) := ⟨φ, by rw [upd_of h_1, upd_of h_2, upd_of h_7, upd_of h_8, upd_of h_18, upd_of h_19, upd_of h_20]⟩
    clear h_1 h_2 h_7 h_8 h_18 h_19 h_20
    have hsz := hK.size
    refine RW.seq ?_
    refine RW.region ?_
    refine RL.opd (v := .bool (decide (((k : Nat) : Int) < (l.length : Nat)))) 21 rfl rfl rfl (X_lss rfl rfl) ?_
    refine RL.nil ?_
    refine RW.seq ?_
    refine RW.cond rfl (fun hlt => ?_) (fun hlt => ?_)
    · -- slot 21: True
      refine RW.skip ?_
      refine RW.seq ?_
      refine RW.block ?_
      refine RW.seq ?_
      have hlt := of_decide_eq_true hlt
      have hlt : k < l.length := by omega
      obtain ⟨b, o, rfl, hc0⟩ := hT.elem 6 (fun _ => rfl) hlt
      have hck := hc0 k hlt
      refine RW.region ?_
      refine RL.opd (v := .pointer (some ⟨b, o + (k) * 7, none⟩)) 22 rfl rfl rfl (X_indexAddr Try.underlying22 Try.inf29 rfl rfl (by omega)) ?_
      refine RL.opd (v := .agg #[.int .i64 l[k].id, .int .i64 l[k].arrive, .int .i64 l[k].frm, .int .i64 l[k].to, .int .i64 l[k].car, .int .i64 l[k].board, .int .i64 l[k].alight]) 23 rfl rfl rfl (X_loadAgg (l[k].enc) Try.underlying29 rfl Try.inf29 rfl (fun j u hu => (hK.cell (hck j u hu) (fun h => h)))) ?_
      refine RL.alloc rfl rfl Try.inf29 ⟨rfl, rfl⟩ (fun B31 w32 ge35 hB34 K33 => ?_)
      have gb_B31 : w.heap.size ≤ B31 := Nat.le_trans hK.size ge35
      have ne36 : B18 ≠ B31 := by have := hbp.lt; omega
      have ne37 : gm ≠ B31 := by have := hgm.lt; omega
      have ne_v_B31 : ∀ g, Value.ownBlock (v) = some g → g ≠ B31 := fun g hg => by have := owns_lt hown g hg; omega
      have sz38 := K33.size
      replace hbp := K33.at_ hbp (fun h => h)
      replace hgm := K33.at_ hgm (fun h => h)
      replace hown := K33.owns hown (fun _ _ h => h)
      have KK39 := hK.trans K33
      refine RL.storeAt (v := .agg #[.int .i64 l[k].id, .int .i64 l[k].arrive, .int .i64 l[k].frm, .int .i64 l[k].to, .int .i64 l[k].car, .int .i64 l[k].board, .int .i64 l[k].alight]) rfl rfl rfl Try.inf29 rfl rfl rfl rfl hB34 (Nat.le_of_ble_eq_true rfl) (fun w40 hB42 K41 => ?_)
      try (rw [splice_all rfl] at hB42)
      replace hbp := K41.at_ hbp (by intro h; exact absurd h (by omega))
      replace hgm := K41.at_ hgm (by intro h; exact absurd h (by omega))
      replace hown := K41.owns hown (fun g hg h => ne_v_B31 g hg h)
      have KK43 := KK39.trans_new K41 (fun i hi h => absurd h (by omega))
      refine RL.nil ?_
      refine RW.region ?_
      refine RL.opd (v := .map (some gm)) 24 rfl rfl rfl (X_load Try.underlying104 rfl rfl (hbp.cell _)) ?_
      refine RL.opd (v := .pointer (some ⟨B31, 0, none⟩)) 25 rfl rfl rfl (X_fieldAddr Try.underlying29 rfl Try.inf3 rfl rfl) ?_
      refine RL.opd (v := .int .i64 l[k].id) 26 rfl rfl rfl (X_load Try.underlying3 rfl rfl (hB42.cell _)) ?_
      refine RL.opd (v := .pointer (some ⟨B31, 5, none⟩)) 27 rfl rfl rfl (X_fieldAddr Try.underlying29 rfl Try.inf3 rfl rfl) ?_
      refine RL.opd (v := .int .i64 l[k].board) 28 rfl rfl rfl (X_load Try.underlying3 rfl rfl (hB42.cell _)) ?_
      refine RL.mapNew (ks := brs (l.take k)) rfl rfl rfl Try.underlying104 Try.underlying3 rfl rfl rfl hgm (look_take hid k hlt) (fun w44 hB46 K45 => ?_)
      replace hbp := K45.at_ hbp (by intro h; exact absurd h (by omega))
      replace hB42 := K45.at_ hB42 (by intro h; exact absurd h (by omega))
      replace hown := K45.owns hown (fun g hg h => ne_v_gm g hg h)
      have KK47 := KK43.trans_new K45 (fun i hi h => absurd h (by omega))
      refine RL.nil ?_
      refine RW.region ?_
      refine RL.opd (v := .int .i64 (((k : Nat) : Int) + 1)) 29 rfl rfl rfl (X_add rfl rfl (by omega) rfl) ?_
      refine RL.opd (v := .int .i64 (((k : Nat) : Int) + 1)) 20 rfl rfl rfl (X_move rfl) ?_
      refine RL.nil ?_
      refine ⟨gk1 - 1, by omega, ⟨rfl, rfl, rfl, rfl, rfl, rfl⟩, ?_⟩
      exact ⟨k + 1, rfl, by omega, by omega, hown, hbp, by rw [brs_snoc l k hlt]; exact hB46, KK47⟩
    · -- slot 21: False
      refine RW.exit ?_
      refine RW.seq ?_
      refine RW.region ?_
      refine RL.opd (v := v) 30 rfl rfl rfl (X_move rfl) ?_
      refine RL.opd (v := .func (.func 39) #[] #[.pointer (some ⟨B18, 0, none⟩)]) 31 rfl rfl rfl (X_makeFuncL rfl rfl) ?_
      obtain rfl : k = l.length := by have := of_decide_eq_false hlt; omega
      rw [List.take_length] at hgm
      have hsm := sel_mem (loadB car tick) l hid
      have hC : ∀ g, v.ownBlock = some g → CmpOk Try.prog 39 (.pointer (some ⟨B18, 0, none⟩)) g (brd l) (fun x => 0 ≤ x ∧ x < l.length) wr1 := fun g hg w' hKg x y hx hy =>
        cmp39 B18 gm (brs l) x y _ _ w' (hKg.at_ hbp (fun h => ne_v_B18 g hg h.symm)) (MapAt.keep hKg hgm (fun h => ne_v_gm g hg h.symm)) (look_brd hid hx) (look_brd hid hy) (by have := brd_bd hbr x; have := brd_bd hbr y; omega)
      have hln : (sel (loadB car tick) l).length ≤ 1000000 := by have := sel_len (loadB car tick) l l.length; rw [List.take_length] at this; omega
      refine RL.call rfl (X_callF Try.en38 rfl) ⟨rfl, rfl⟩ (sort_own v (.pointer (some ⟨B18, 0, none⟩)) _ (brd l) (fun x => 0 ≤ x ∧ x < l.length) (sel (loadB car tick) l) wr1 hln hown (sel_inc _ l hid) hsm hC) ?_
      rintro e49 w48 ⟨ys, rfl, hso, hown2, hK2⟩
      refine ⟨_, rfl, ?_⟩
      have KK50 := hK.trans_new hK2 (fun i hi h => by have := hge i h; omega)
      refine RL.nil ?_
      refine RW.seq ?_
      refine RW.region ?_
      refine RL.opd (v := v) 33 rfl rfl rfl (X_move rfl) ?_
      refine RL.opd (v := v) 6 rfl rfl rfl (X_assign rfl) ?_
      refine RL.nil ?_
      refine RW.ret ?_
      have he := sorted_is hid hso
      have hyl := hso.len
      subst he
      exact ret1 (.inl rfl) rfl ⟨v, rfl, owns_cast hown2 hyl.symm rfl, KK50, hge⟩

end Go.Proofs
