/- Models: rows of spans, rota -/
import Derived.Test.YtjahbhpcaenllaaHwMd
import Derived.Test.YtjahbhpcaenllaaHwCmp
namespace Md
open Go Go.Hw
def span_And_j2 (l45 : List Span) (l48 : List Span) (rec1 : List Span → List Span → List Span → Option (List Span)) (x97 : Span) (x99 : Span) (l114 : List Span) : Option (List Span) :=
  bif decide (x97.To < x99.To) then (chk (inrle l45.length 1) <| rec1 (l45.drop (1 : Int).toNat) l48 l114) else (chk (inrle l48.length 1) <| rec1 l45 (l48.drop (1 : Int).toNat) l114)
def span_And_l1_b (rec1 : List Span → List Span → List Span → Option (List Span)) (l45 : List Span) (l48 : List Span) (l51 : List Span) : Option (List Span) :=
  bif bif decide ((0 : Int) < (l45.length : Int)) then decide ((0 : Int) < (l48.length : Int)) else false then ((idx l45 0).bind fun x97 => (idx l48 0).bind fun x99 => bif decide ((mx x97.From x99.From) < (mn x97.To x99.To)) then (chk (fits (l51 ++ ([(Span.mk (mx x97.From x99.From) (mn x97.To x99.To))])).length) <| span_And_j2 l45 l48 rec1 x97 x99 (l51 ++ ([(Span.mk (mx x97.From x99.From) (mn x97.To x99.To))]))) else (span_And_j2 l45 l48 rec1 x97 x99 l51)) else (some l51)
def span_And_l1 : Nat → List Span → List Span → List Span → Option (List Span)
  | 0, _, _, _ => none
  | k + 1, l45, l48, l51 => span_And_l1_b (span_And_l1 k) l45 l48 l51
def span_And (p0 : List Span) (p1 : List Span) : Option (List Span) :=
  span_And_l1 N0 p0 p1 ([] : List Span)
def span_Sub_l2_b (p1 : List Span) (i89 : Int) (rec1 : List Span → Int → Option (List Span)) (x177 : Span) (rec2 : List Span → Int → Int → Option (List Span)) (l206 : List Span) (i207 : Int) (i208 : Int) : Option (List Span) :=
  bif decide (i208 < (p1.length : Int)) then ((idx p1 i208).bind fun x233 => bif bif decide (x233.To ≤ i207) then true else decide (x177.To ≤ x233.From) then (rec2 l206 i207 (w64 (i208 + 1))) else (bif decide (i207 < x233.From) then (chk (fits (l206 ++ ([(Span.mk i207 x233.From)])).length) <| rec2 (l206 ++ ([(Span.mk i207 x233.From)])) x233.To (w64 (i208 + 1))) else (rec2 l206 x233.To (w64 (i208 + 1))))) else (bif decide (i207 < x177.To) then (chk (fits (l206 ++ ([(Span.mk i207 x177.To)])).length) <| rec1 (l206 ++ ([(Span.mk i207 x177.To)])) (w64 (i89 + 1))) else (rec1 l206 (w64 (i89 + 1))))
def span_Sub_l2 (p1 : List Span) (i89 : Int) (rec1 : List Span → Int → Option (List Span)) (x177 : Span) : Nat → List Span → Int → Int → Option (List Span)
  | 0, _, _, _ => none
  | k + 1, l206, i207, i208 => span_Sub_l2_b p1 i89 rec1 x177 (span_Sub_l2 p1 i89 rec1 x177 k) l206 i207 i208
def span_Sub_l1_b (p0 : List Span) (p1 : List Span) (rec1 : List Span → Int → Option (List Span)) (l88 : List Span) (i89 : Int) : Option (List Span) :=
  bif decide (i89 < (p0.length : Int)) then ((idx p0 i89).bind fun x177 => span_Sub_l2 p1 i89 rec1 x177 N0 l88 x177.From 0) else (some l88)
def span_Sub_l1 (p0 : List Span) (p1 : List Span) : Nat → List Span → Int → Option (List Span)
  | 0, _, _ => none
  | k + 1, l88, i89 => span_Sub_l1_b p0 p1 (span_Sub_l1 p0 p1 k) l88 i89
def span_Sub (p0 : List Span) (p1 : List Span) : Option (List Span) :=
  span_Sub_l1 p0 p1 N0 ([] : List Span) 0
def ref09_Has_l1_b (p0 : List Span) (p1 : Int) (rec1 : Int → Option Bool) (i6 : Int) : Option Bool :=
  bif decide (i6 < (p0.length : Int)) then ((idx p0 i6).bind fun x14 => bif bif decide (x14.From ≤ p1) then decide (p1 < x14.To) else false then (some true) else (rec1 (w64 (i6 + 1)))) else (some false)
def ref09_Has_l1 (p0 : List Span) (p1 : Int) : Nat → Int → Option Bool
  | 0, _ => none
  | k + 1, i6 => ref09_Has_l1_b p0 p1 (ref09_Has_l1 p0 p1 k) i6
def ref09_Has (p0 : List Span) (p1 : Int) : Option Bool :=
  ref09_Has_l1 p0 p1 N0 0
def rota_Spans (p0 : Rota_Rota) (p1 : Int) : Option (List Span) :=
  chk (fits (([] : List Span) ++ ((mget p0.out p1).getD [])).length) <| some (([] : List Span) ++ ((mget p0.out p1).getD []))
def rota_Back_l1_b (p0 : Rota_Rota) (p1 : Int) (p2 : Int) (rec1 : Int → Option Int) (i12 : Int) : Option Int :=
  bif decide (i12 < (((mget p0.out p1).getD []).length : Int)) then ((idx ((mget p0.out p1).getD []) i12).bind fun x23 => bif bif decide (x23.From ≤ p2) then decide (p2 < x23.To) else false then (some x23.To) else (rec1 (w64 (i12 + 1)))) else (some p2)
def rota_Back_l1 (p0 : Rota_Rota) (p1 : Int) (p2 : Int) : Nat → Int → Option Int
  | 0, _ => none
  | k + 1, i12 => rota_Back_l1_b p0 p1 p2 (rota_Back_l1 p0 p1 p2 k) i12
def rota_Back (p0 : Rota_Rota) (p1 : Int) (p2 : Int) : Option Int :=
  rota_Back_l1 p0 p1 p2 N0 0
def rota_In (p0 : Rota_Rota) (p1 : Int) (p2 : Span) : Option Rota_Rota :=
  bif decide (p2.To ≤ p2.From) then (some p0) else ((span_Sub ((mget p0.out p1).getD []) ([p2])).bind fun x12 => bif decide ((x12.length : Int) = 0) then (some (Rota_Rota.mk (mdel p0.out p1))) else (chk (p0.out.isSome = true) <| some (Rota_Rota.mk (mset p0.out p1 x12))))
def ref09_bounds_l3_b (l53 : List Int) (i54 : Int) (rec1 : List Int → Int → Option (List Int)) (i103 : Int) (rec3 : Int → Option (List Int)) (i108 : Int) : Option (List Int) :=
  (gI ((decide (i108 < (l53.length : Int))) == true) (idx l53 i108) 0).bind fun x113 => bif bif decide (i108 < (l53.length : Int)) then decide (x113 < i103) else false then (rec3 (w64 (i108 + 1))) else (bif bif decide (i108 < (l53.length : Int)) then decide (x113 = i103) else false then (rec1 l53 (w64 (i54 + 1))) else (chk (inrle l53.length i108) <| chk (fits (([] : List Int) ++ (l53.take i108.toNat)).length) <| chk (fits ((([] : List Int) ++ (l53.take i108.toNat)) ++ ([i103])).length) <| chk (inrle l53.length i108) <| chk (fits (((([] : List Int) ++ (l53.take i108.toNat)) ++ ([i103])) ++ (l53.drop i108.toNat)).length) <| rec1 (((([] : List Int) ++ (l53.take i108.toNat)) ++ ([i103])) ++ (l53.drop i108.toNat)) (w64 (i54 + 1))))
def ref09_bounds_l3 (l53 : List Int) (i54 : Int) (rec1 : List Int → Int → Option (List Int)) (i103 : Int) : Nat → Int → Option (List Int)
  | 0, _ => none
  | k + 1, i108 => ref09_bounds_l3_b l53 i54 rec1 i103 (ref09_bounds_l3 l53 i54 rec1 i103 k) i108
def ref09_bounds_j2 (l53 : List Int) (i54 : Int) (rec1 : List Int → Int → Option (List Int)) (i103 : Int) : Option (List Int) :=
  ref09_bounds_l3 l53 i54 rec1 i103 N0 0
def ref09_bounds_l1_b (p0 : List Span) (p1 : List Span) (rec1 : List Int → Int → Option (List Int)) (l53 : List Int) (i54 : Int) : Option (List Int) :=
  bif decide (i54 < (w64 (2 * (((([] : List Span) ++ p0) ++ p1).length : Int)))) then ((idx ((([] : List Span) ++ p0) ++ p1) (w64 (Int.tdiv i54 2))).bind fun x100 => bif decide ((Int.tmod i54 2) = 1) then (ref09_bounds_j2 l53 i54 rec1 x100.To) else (ref09_bounds_j2 l53 i54 rec1 x100.From)) else (some l53)
def ref09_bounds_l1 (p0 : List Span) (p1 : List Span) : Nat → List Int → Int → Option (List Int)
  | 0, _, _ => none
  | k + 1, l53, i54 => ref09_bounds_l1_b p0 p1 (ref09_bounds_l1 p0 p1 k) l53 i54
def ref09_bounds (p0 : List Span) (p1 : List Span) : Option (List Int) :=
  chk (fits (([] : List Span) ++ p0).length) <| chk (fits ((([] : List Span) ++ p0) ++ p1).length) <| ref09_bounds_l1 p0 p1 N0 ([] : List Int) 0
def ref09_Make_j3 (x1 : List Int) (l52 : List Span) (i53 : Int) (rec1 : List Span → Int → Option (List Span)) (x100 : Int) (b112 : Bool) : Option (List Span) :=
  bif !b112 then (rec1 l52 (w64 (i53 + 1))) else ((gI ((decide ((0 : Int) < (l52.length : Int))) == true) (idx l52 (w64 ((l52.length : Int) - 1))) (Span.mk 0 0)).bind fun x116 => bif bif decide ((0 : Int) < (l52.length : Int)) then decide (x116.To = x100) else false then ((idx x1 (w64 (i53 + 1))).bind fun x118 => (idx l52 (w64 ((l52.length : Int) - 1))).bind fun x120 => rec1 (l52.set ((w64 ((l52.length : Int) - 1)).toNat) (Span.mk x120.From x118)) (w64 (i53 + 1))) else ((idx x1 (w64 (i53 + 1))).bind fun x124 => chk (fits (l52 ++ ([(Span.mk x100 x124)])).length) <| rec1 (l52 ++ ([(Span.mk x100 x124)])) (w64 (i53 + 1))))
def ref09_Make_j2 (p1 : List Span) (p2 : Int) (x1 : List Int) (l52 : List Span) (i53 : Int) (rec1 : List Span → Int → Option (List Span)) (x100 : Int) (b107 : Bool) : Option (List Span) :=
  bif decide (p2 = 2) then ((gI (b107 == true) (ref09_Has p1 x100) false).bind fun x134 => ref09_Make_j3 x1 l52 i53 rec1 x100 (bif b107 then !x134 else false)) else (ref09_Make_j3 x1 l52 i53 rec1 x100 b107)
def ref09_Make_l1_b (p0 : List Span) (p1 : List Span) (p2 : Int) (x1 : List Int) (rec1 : List Span → Int → Option (List Span)) (l52 : List Span) (i53 : Int) : Option (List Span) :=
  bif decide ((w64 (i53 + 1)) < (x1.length : Int)) then ((idx x1 i53).bind fun x100 => (ref09_Has p0 x100).bind fun x102 => bif decide (p2 = 1) then ((gI (x102 == true) (ref09_Has p1 x100) false).bind fun x137 => ref09_Make_j2 p1 p2 x1 l52 i53 rec1 x100 (bif x102 then x137 else false)) else (ref09_Make_j2 p1 p2 x1 l52 i53 rec1 x100 x102)) else (some l52)
def ref09_Make_l1 (p0 : List Span) (p1 : List Span) (p2 : Int) (x1 : List Int) : Nat → List Span → Int → Option (List Span)
  | 0, _, _ => none
  | k + 1, l52, i53 => ref09_Make_l1_b p0 p1 p2 x1 (ref09_Make_l1 p0 p1 p2 x1 k) l52 i53
def ref09_Make (p0 : List Span) (p1 : List Span) (p2 : Int) : Option (List Span) :=
  (ref09_bounds p0 p1).bind fun x1 => ref09_Make_l1 p0 p1 p2 x1 N0 ([] : List Span) 0
def law68_row_l1_b (p0 : List Law68_Op) (p1 : Int) (rec1 : List Span → Int → Option (List Span)) (l36 : List Span) (i37 : Int) : Option (List Span) :=
  bif decide (i37 < (p0.length : Int)) then ((idx p0 i37).bind fun x73 => bif !decide (x73.Car = p1) then (rec1 l36 (w64 (i37 + 1))) else (bif x73.In then ((ref09_Make l36 ([x73.S]) 2).bind fun x80 => rec1 x80 (w64 (i37 + 1))) else (chk (fits (([] : List Span) ++ l36).length) <| chk (fits ((([] : List Span) ++ l36) ++ ([x73.S])).length) <| (ref09_Make ((([] : List Span) ++ l36) ++ ([x73.S])) [] 0).bind fun x96 => rec1 x96 (w64 (i37 + 1))))) else (some l36)
def law68_row_l1 (p0 : List Law68_Op) (p1 : Int) : Nat → List Span → Int → Option (List Span)
  | 0, _, _ => none
  | k + 1, l36, i37 => law68_row_l1_b p0 p1 (law68_row_l1 p0 p1 k) l36 i37
def law68_row (p0 : List Law68_Op) (p1 : Int) : Option (List Span) :=
  law68_row_l1 p0 p1 N0 ([] : List Span) 0
def clone_Span (p0 : List Span) : Option (List Span) :=
  chk (fits (([] : List Span) ++ p0).length) <| some (([] : List Span) ++ p0)
def equal_Span_l1_b (p0 : List Span) (p1 : List Span) (rec1 : Int → Option Bool) (i10 : Int) : Option Bool :=
  bif decide (i10 < (p0.length : Int)) then ((idx p0 i10).bind fun x22 => (idx p1 i10).bind fun x24 => bif !decide (x22 = x24) then (some false) else (rec1 (w64 (i10 + 1)))) else (some true)
def equal_Span_l1 (p0 : List Span) (p1 : List Span) : Nat → Int → Option Bool
  | 0, _ => none
  | k + 1, i10 => equal_Span_l1_b p0 p1 (equal_Span_l1 p0 p1 k) i10
def equal_Span (p0 : List Span) (p1 : List Span) : Option Bool :=
  bif !decide ((p0.length : Int) = (p1.length : Int)) then (some false) else (equal_Span_l1 p0 p1 N0 0)
def span_Has_1 (p0 : Span) (p1 : Int) : Option Int :=
  bif decide (p0.To ≤ p1) then (some (-1)) else (some 1)
def bsearch_Span_l1_b (p0 : List Span) (p1 : Int) (rec1 : Int → Int → Option (Int × Bool)) (i9 : Int) (i10 : Int) : Option (Int × Bool) :=
  bif decide (i9 < i10) then ((idx p0 (IntKind.i64.wrap (shrI .u64 (IntKind.u64.wrap (w64 (i9 + i10))) 1))).bind fun x21 => (span_Has_1 x21 p1).bind fun x23 => bif decide (x23 < 0) then (rec1 (w64 ((IntKind.i64.wrap (shrI .u64 (IntKind.u64.wrap (w64 (i9 + i10))) 1)) + 1)) i10) else (rec1 i9 (IntKind.i64.wrap (shrI .u64 (IntKind.u64.wrap (w64 (i9 + i10))) 1)))) else ((gI ((decide (i9 < (p0.length : Int))) == true) (idx p0 i9) (Span.mk 0 0)).bind fun x26 => (gI ((decide (i9 < (p0.length : Int))) == true) (span_Has_1 x26 p1) 0).bind fun x27 => some (i9, bif decide (i9 < (p0.length : Int)) then decide (x27 = 0) else false))
def bsearch_Span_l1 (p0 : List Span) (p1 : Int) : Nat → Int → Int → Option (Int × Bool)
  | 0, _, _ => none
  | k + 1, i9, i10 => bsearch_Span_l1_b p0 p1 (bsearch_Span_l1 p0 p1 k) i9 i10
def bsearch_Span (p0 : List Span) (p1 : Int) : Option (Int × Bool) :=
  bsearch_Span_l1 p0 p1 N0 0 (p0.length : Int)
def span_Has (p0 : List Span) (p1 : Int) : Option Bool :=
  (bsearch_Span p0 p1).bind fun x1 => (gI ((decide (x1.1 < (p0.length : Int))) == true) (idx p0 x1.1) (Span.mk 0 0)).bind fun x3 => some (bif decide (x1.1 < (p0.length : Int)) then decide (x3.From ≤ p1) else false)
def rota_Serves (p0 : Rota_Rota) (p1 : Int) (p2 : Int) : Option Bool :=
  (span_Has ((mget p0.out p1).getD []) p2).bind fun x4 => some (!x4)
def rota_Many_l1_b (p0 : Rota_Rota) (p1 : Int) (p2 : Int) (rec1 : Int → Int → Option Int) (i7 : Int) (i8 : Int) : Option Int :=
  bif decide (i8 < (mn p1 16)) then ((rota_Serves p0 i8 p2).bind fun x17 => bif x17 then (rec1 (w64 (i7 + 1)) (w64 (i8 + 1))) else (rec1 i7 (w64 (i8 + 1)))) else (some i7)
def rota_Many_l1 (p0 : Rota_Rota) (p1 : Int) (p2 : Int) : Nat → Int → Int → Option Int
  | 0, _, _ => none
  | k + 1, i7, i8 => rota_Many_l1_b p0 p1 p2 (rota_Many_l1 p0 p1 p2 k) i7 i8
def rota_Many (p0 : Rota_Rota) (p1 : Int) (p2 : Int) : Option Int :=
  rota_Many_l1 p0 p1 p2 N0 0 0
def span_Merge_l1_b (x1 : List Span) (rec1 : List Span → Int → Option (List Span)) (l35 : List Span) (i36 : Int) : Option (List Span) :=
  bif decide (i36 < ((sortL cmpFrom x1).length : Int)) then ((idx (sortL cmpFrom x1) i36).bind fun x64 => bif decide (x64.To ≤ x64.From) then (rec1 l35 (w64 (i36 + 1))) else ((gI ((decide ((0 : Int) < (l35.length : Int))) == true) (idx l35 (w64 ((l35.length : Int) - 1))) (Span.mk 0 0)).bind fun x71 => bif bif decide ((0 : Int) < (l35.length : Int)) then decide (x64.From ≤ x71.To) else false then ((idx l35 (w64 ((l35.length : Int) - 1))).bind fun x74 => rec1 (l35.set ((w64 ((l35.length : Int) - 1)).toNat) (Span.mk x74.From (mx x74.To x64.To))) (w64 (i36 + 1))) else (chk (fits (l35 ++ ([x64])).length) <| rec1 (l35 ++ ([x64])) (w64 (i36 + 1))))) else (some l35)
def span_Merge_l1 (x1 : List Span) : Nat → List Span → Int → Option (List Span)
  | 0, _, _ => none
  | k + 1, l35, i36 => span_Merge_l1_b x1 (span_Merge_l1 x1 k) l35 i36
def span_Merge (p0 : List Span) : Option (List Span) :=
  (clone_Span p0).bind fun x1 => chk (fits x1.length) <| span_Merge_l1 x1 N0 ([] : List Span) 0
def rota_Out_j1 (p1 : Int) (p2 : Span) (m10 : Mp Int (List Span)) : Option Rota_Rota :=
  chk (fits (((mget m10 p1).getD []) ++ ([p2])).length) <| (span_Merge (((mget m10 p1).getD []) ++ ([p2]))).bind fun x25 => chk (m10.isSome = true) <| some (Rota_Rota.mk (mset m10 p1 x25))
def rota_Out (p0 : Rota_Rota) (p1 : Int) (p2 : Span) : Option Rota_Rota :=
  bif decide (p2.To ≤ p2.From) then (some p0) else (bif p0.out.isNone then (rota_Out_j1 p1 p2 mnew) else (rota_Out_j1 p1 p2 p0.out))
def rota_None_l1_b (p0 : Rota_Rota) (p1 : Int) (rec1 : List Span → Int → Option (List Span)) (l26 : List Span) (i27 : Int) : Option (List Span) :=
  bif decide (i27 < (mn p1 16)) then ((span_And l26 ((mget p0.out i27).getD [])).bind fun x46 => rec1 x46 (w64 (i27 + 1))) else (some l26)
def rota_None_l1 (p0 : Rota_Rota) (p1 : Int) : Nat → List Span → Int → Option (List Span)
  | 0, _, _ => none
  | k + 1, l26, i27 => rota_None_l1_b p0 p1 (rota_None_l1 p0 p1 k) l26 i27
def rota_None (p0 : Rota_Rota) (p1 : Int) (p2 : Span) : Option (List Span) :=
  (span_Merge ([p2])).bind fun x6 => rota_None_l1 p0 p1 N0 x6 0
def law68_alive : Option Bool :=
  (rota_Out (Rota_Rota.mk none) 0 (Span.mk 5 9)).bind fun x3 => (rota_Back x3 0 6).bind fun x6 => (gI ((decide (x6 = 9)) == true) (rota_Serves x3 0 8) false).bind fun x8 => (gI ((bif decide (x6 = 9) then !x8 else false) == true) (rota_Serves x3 1 8) false).bind fun x10 => some (bif bif decide (x6 = 9) then !x8 else false then x10 else false)
def law68_RotaPlays_j2 (p0 : List Law68_Op) (i57 : Int) (rec1 : Mp Int (List Span) → Int → Option Bool) (m120 : Mp Int (List Span)) : Option Bool :=
  (idx p0 i57).bind fun x124 => chk (inrle p0.length (w64 (i57 + 1))) <| (rota_Spans (Rota_Rota.mk m120) x124.Car).bind fun x127 => (law68_row (p0.take (w64 (i57 + 1)).toNat) x124.Car).bind fun x132 => (equal_Span x127 x132).bind fun x137 => bif !x137 then (some false) else (rec1 m120 (w64 (i57 + 1)))
def law68_RotaPlays_l4_b (p0 : List Law68_Op) (p1 : Law68_At) (m55 : Mp Int (List Span)) (x151 : List Span) (i163 : Int) (rec4 : Int → List Span → Int → Option Bool) (i210 : Int) (l213 : List Span) (i214 : Int) : Option Bool :=
  bif bif decide (i214 < p1.Cars) then decide (i214 < 16) else false then ((law68_row p0 i214).bind fun x241 => (ref09_Has x241 p1.Tick).bind fun x246 => bif !x246 then ((ref09_Make l213 x241 1).bind fun x249 => rec4 (w64 (i210 + 1)) x249 (w64 (i214 + 1))) else ((ref09_Make l213 x241 1).bind fun x254 => rec4 i210 x254 (w64 (i214 + 1)))) else ((rota_Serves (Rota_Rota.mk m55) p1.Car p1.Tick).bind fun x260 => (ref09_Has x151 p1.Tick).bind fun x262 => (gI ((x260 == (!x262)) == true) (rota_Back (Rota_Rota.mk m55) p1.Car p1.Tick) 0).bind fun x264 => (gI ((bif x260 == (!x262) then decide (x264 = i163) else false) == true) (rota_Many (Rota_Rota.mk m55) p1.Cars p1.Tick) 0).bind fun x266 => (gI ((bif bif x260 == (!x262) then decide (x264 = i163) else false then decide (x266 = i210) else false) == true) (rota_None (Rota_Rota.mk m55) p1.Cars p1.Of) ([])).bind fun x268 => (gI ((bif bif x260 == (!x262) then decide (x264 = i163) else false then decide (x266 = i210) else false) == true) (equal_Span x268 l213) false).bind fun x273 => (gI ((bif bif bif x260 == (!x262) then decide (x264 = i163) else false then decide (x266 = i210) else false then x273 else false) == true) (law68_alive) false).bind fun x275 => some (bif bif bif bif x260 == (!x262) then decide (x264 = i163) else false then decide (x266 = i210) else false then x273 else false then x275 else false))
def law68_RotaPlays_l4 (p0 : List Law68_Op) (p1 : Law68_At) (m55 : Mp Int (List Span)) (x151 : List Span) (i163 : Int) : Nat → Int → List Span → Int → Option Bool
  | 0, _, _, _ => none
  | k + 1, i210, l213, i214 => law68_RotaPlays_l4_b p0 p1 m55 x151 i163 (law68_RotaPlays_l4 p0 p1 m55 x151 i163 k) i210 l213 i214
def law68_RotaPlays_l3_b (p0 : List Law68_Op) (p1 : Law68_At) (m55 : Mp Int (List Span)) (x151 : List Span) (rec3 : Int → Int → Option Bool) (i163 : Int) (i164 : Int) : Option Bool :=
  bif decide (i164 < (x151.length : Int)) then ((idx x151 i164).bind fun x175 => bif bif decide (x175.From ≤ p1.Tick) then decide (p1.Tick < x175.To) else false then (rec3 x175.To (w64 (i164 + 1))) else (rec3 i163 (w64 (i164 + 1)))) else ((ref09_Make ([p1.Of]) [] 0).bind fun x181 => law68_RotaPlays_l4 p0 p1 m55 x151 i163 N0 0 x181 0)
def law68_RotaPlays_l3 (p0 : List Law68_Op) (p1 : Law68_At) (m55 : Mp Int (List Span)) (x151 : List Span) : Nat → Int → Int → Option Bool
  | 0, _, _ => none
  | k + 1, i163, i164 => law68_RotaPlays_l3_b p0 p1 m55 x151 (law68_RotaPlays_l3 p0 p1 m55 x151 k) i163 i164
def law68_RotaPlays_l1_b (p0 : List Law68_Op) (p1 : Law68_At) (rec1 : Mp Int (List Span) → Int → Option Bool) (m55 : Mp Int (List Span)) (i57 : Int) : Option Bool :=
  bif decide (i57 < (p0.length : Int)) then ((idx p0 i57).bind fun x140 => bif x140.In then ((rota_In (Rota_Rota.mk m55) x140.Car x140.S).bind fun x144 => law68_RotaPlays_j2 p0 i57 rec1 x144.out) else ((rota_Out (Rota_Rota.mk m55) x140.Car x140.S).bind fun x148 => law68_RotaPlays_j2 p0 i57 rec1 x148.out)) else ((law68_row p0 p1.Car).bind fun x151 => law68_RotaPlays_l3 p0 p1 m55 x151 N0 p1.Tick 0)
def law68_RotaPlays_l1 (p0 : List Law68_Op) (p1 : Law68_At) : Nat → Mp Int (List Span) → Int → Option Bool
  | 0, _, _ => none
  | k + 1, m55, i57 => law68_RotaPlays_l1_b p0 p1 (law68_RotaPlays_l1 p0 p1 k) m55 i57
def law68_RotaPlays (p0 : List Law68_Op) (p1 : Law68_At) : Option Bool :=
  bif decide ((20 : Int) < (p0.length : Int)) then (some true) else (law68_RotaPlays_l1 p0 p1 N0 none 0)
end Md
