/- Proved here: contracts of functions of the given program, or lemmas on them, for the laws of this seat. Written by xprint.py, a program of this session, on the ground of the kit's print; parts by hand: wip/x/ext. -/
import Derived.Test.YtdamdcdjodmemaaPAllx0
import Derived.Test.YtdamdcdjodmemaaPAllx1
import Derived.Test.YtdamdcdjodmemaaPAllx2
import Derived.Test.YtdamdcdjodmemaaPAllx3
import Derived.Test.YtdamdcdjodmemaaPAllx4
namespace Go.Proofs.Ytdamdcdjodmemaa.PAll
open Go.RowKit Go.Proofs.YtdamdcdjodmemaaW.PrintWords Go.Proofs.YtdamdcdjodmemaaW.PrintLast Go.Proofs.YtdamdcdjodmemaaW.PrintMore
attribute [local go_sem] max2_int min2_int max_two min_two max_three min_three max_four min_four   -- for this text's walks alone
set_option linter.unusedVariables false
set_option linter.unusedSimpArgs false

/-! ### impl_TreeWay: function 35 -/
mutual
def impl_TreeWay.j0 : Nat → Int → Int → Bool → Int → List (S51) → List Int → List Int → Option (List Int)
 | 0,_,_,_,_,_,_,_ => none
 | k + 1,x1,x2,x24,x383000,x383001,x383002,x383003 => if x24 = true then (some ([] : List Int)) else ((impl_rootsOf.f x383000 x383001).bind fun t385 => (if 0 ≤ x1 then (if x1 < (x383002.length : Int) then (if 0 ≤ (rd x383002 x1) then (if (rd x383002 x1) < (t385.length : Int) then (if 0 ≤ x2 then (if x2 < (x383002.length : Int) then (if 0 ≤ (rd x383002 x2) then (if (rd x383002 x2) < (t385.length : Int) then (if (rd t385 (rd x383002 x1)) = (rd t385 (rd x383002 x2)) then ((impl_Net_ups.f k x383000 x383001 x383002 x383003 (rd x383002 x1)).bind fun t393 => ((impl_Net_ups.f k x383000 x383001 x383002 x383003 (rd x383002 x2)).bind fun t397 => (impl_TreeWay.l0 k t393 t397 ([] : List Int) t393 (t393.length : Int) 0))) else (some ([] : List Int))) else (none)) else (none)) else (none)) else (none)) else (none)) else (none)) else (none)) else (none)))
def impl_TreeWay.l0 : Nat → List Int → List Int → List Int → List Int → Int → Int → Option (List Int)
 | 0,_,_,_,_,_,_ => none
 | k + 1,x8,x9,x10,x61,x62,x63 => if x63 < x62 then (if 0 ≤ x63 then (if x63 < (x61.length : Int) then ((slices_Contains_int_int.f k x9 (rd x61 x63)).bind fun t401 => (if t401 = true then (impl_TreeWay.l0 k x8 x9 x10 x61 x62 (wrap64 (x63 + 1))) else (if x10.length < 17592186044416 then (impl_TreeWay.l0 k x8 x9 (x10 ++ [rd x61 x63]) x61 x62 (wrap64 (x63 + 1))) else (none)))) else (none)) else (none)) else (impl_TreeWay.l1 k x8 x10 x9 (x9.length : Int) 0)
def impl_TreeWay.l1 : Nat → List Int → List Int → List Int → Int → Int → Option (List Int)
 | 0,_,_,_,_,_ => none
 | k + 1,x8,x10,x76,x77,x78 => if x78 < x77 then (if 0 ≤ x78 then (if x78 < (x76.length : Int) then ((slices_Contains_int_int.f k x8 (rd x76 x78)).bind fun t406 => (if t406 = true then (impl_TreeWay.l1 k x8 x10 x76 x77 (wrap64 (x78 + 1))) else (if x10.length < 17592186044416 then (impl_TreeWay.l1 k x8 (x10 ++ [rd x76 x78]) x76 x77 (wrap64 (x78 + 1))) else (none)))) else (none)) else (none)) else ((slices_Sort_int_int.f k x10).bind fun t410 => (some t410))
end
def impl_TreeWay.f (k : Nat) (a0_0 : Int) (l0_1 : List (S51)) (l0_2 : List Int) (l0_3 : List Int) (a1 : Int) (a2 : Int) : Option (List Int):=(impl_Net_station.f a0_0 l0_1 l0_2 l0_3 a1).bind fun t383 => (if t383 = true then ((impl_Net_station.f a0_0 l0_1 l0_2 l0_3 a2).bind fun t384 => (impl_TreeWay.j0 k a1 a2 (!t384) a0_0 l0_1 l0_2 l0_3)) else (impl_TreeWay.j0 k a1 a2 true a0_0 l0_1 l0_2 l0_3))
theorem impl_TreeWay.mono_l : ∀ k,(∀ y0 y1 y2 y3 y4 y5 y6,LeO (impl_TreeWay.j0 k y0 y1 y2 y3 y4 y5 y6) (impl_TreeWay.j0 (k + 1) y0 y1 y2 y3 y4 y5 y6)) ∧ (∀ y0 y1 y2 y3 y4 y5,LeO (impl_TreeWay.l0 k y0 y1 y2 y3 y4 y5) (impl_TreeWay.l0 (k + 1) y0 y1 y2 y3 y4 y5)) ∧ (∀ y0 y1 y2 y3 y4,LeO (impl_TreeWay.l1 k y0 y1 y2 y3 y4) (impl_TreeWay.l1 (k + 1) y0 y1 y2 y3 y4))
 | 0 => ⟨fun _ _ _ _ _ _ _ r h => by simp [impl_TreeWay.j0] at h,fun _ _ _ _ _ _ r h => by simp [impl_TreeWay.l0] at h,fun _ _ _ _ _ r h => by simp [impl_TreeWay.l1] at h⟩
 | k + 1 => by
  obtain ⟨ih0,ih1,ih2⟩:=impl_TreeWay.mono_l k
  refine ⟨?_,?_,?_⟩
  ·intro y0 y1 y2 y3 y4 y5 y6
   unfold impl_TreeWay.j0
   repeat' first
   | (with_reducible exact ih0 _ _ _ _ _ _ _)
   | (with_reducible exact ih1 _ _ _ _ _ _)
   | (with_reducible exact ih2 _ _ _ _ _)
   | (with_reducible exact impl_Net_ups.mono _ _ _ _ _ _)
   | (with_reducible exact slices_Contains_int_int.mono _ _ _)
   | (with_reducible exact slices_Sort_int_int.mono _ _)
   | (with_reducible exact LeO.refl _)
   | (with_reducible exact LeO.none _)
   | (with_reducible refine LeO.ite ?_ ?_)
   | (with_reducible refine LeO.bind ?_ (fun _ => ?_))
   | exact ih0 _ _ _ _ _ _ _
   | exact ih1 _ _ _ _ _ _
   | exact ih2 _ _ _ _ _
   | exact impl_Net_ups.mono _ _ _ _ _ _
   | exact slices_Contains_int_int.mono _ _ _
   | exact slices_Sort_int_int.mono _ _
   | exact LeO.none _
   | refine LeO.ite ?_ ?_
   | refine LeO.bind ?_ (fun _ => ?_)
  ·intro y0 y1 y2 y3 y4 y5
   unfold impl_TreeWay.l0
   repeat' first
   | (with_reducible exact ih0 _ _ _ _ _ _ _)
   | (with_reducible exact ih1 _ _ _ _ _ _)
   | (with_reducible exact ih2 _ _ _ _ _)
   | (with_reducible exact impl_Net_ups.mono _ _ _ _ _ _)
   | (with_reducible exact slices_Contains_int_int.mono _ _ _)
   | (with_reducible exact slices_Sort_int_int.mono _ _)
   | (with_reducible exact LeO.refl _)
   | (with_reducible exact LeO.none _)
   | (with_reducible refine LeO.ite ?_ ?_)
   | (with_reducible refine LeO.bind ?_ (fun _ => ?_))
   | exact ih0 _ _ _ _ _ _ _
   | exact ih1 _ _ _ _ _ _
   | exact ih2 _ _ _ _ _
   | exact impl_Net_ups.mono _ _ _ _ _ _
   | exact slices_Contains_int_int.mono _ _ _
   | exact slices_Sort_int_int.mono _ _
   | exact LeO.none _
   | refine LeO.ite ?_ ?_
   | refine LeO.bind ?_ (fun _ => ?_)
  ·intro y0 y1 y2 y3 y4
   unfold impl_TreeWay.l1
   repeat' first
   | (with_reducible exact ih0 _ _ _ _ _ _ _)
   | (with_reducible exact ih1 _ _ _ _ _ _)
   | (with_reducible exact ih2 _ _ _ _ _)
   | (with_reducible exact impl_Net_ups.mono _ _ _ _ _ _)
   | (with_reducible exact slices_Contains_int_int.mono _ _ _)
   | (with_reducible exact slices_Sort_int_int.mono _ _)
   | (with_reducible exact LeO.refl _)
   | (with_reducible exact LeO.none _)
   | (with_reducible refine LeO.ite ?_ ?_)
   | (with_reducible refine LeO.bind ?_ (fun _ => ?_))
   | exact ih0 _ _ _ _ _ _ _
   | exact ih1 _ _ _ _ _ _
   | exact ih2 _ _ _ _ _
   | exact impl_Net_ups.mono _ _ _ _ _ _
   | exact slices_Contains_int_int.mono _ _ _
   | exact slices_Sort_int_int.mono _ _
   | exact LeO.none _
   | refine LeO.ite ?_ ?_
   | refine LeO.bind ?_ (fun _ => ?_)
theorem impl_TreeWay.mono : ∀ a0 a1 a2 a3 a4 a5 k,LeO (impl_TreeWay.f k a0 a1 a2 a3 a4 a5) (impl_TreeWay.f (k + 1) a0 a1 a2 a3 a4 a5):=by
 intro a0 a1 a2 a3 a4 a5 k
 obtain ⟨ih0,ih1,ih2⟩:=impl_TreeWay.mono_l k
 unfold impl_TreeWay.f
 repeat' first
   | (with_reducible exact ih0 _ _ _ _ _ _ _)
   | (with_reducible exact ih1 _ _ _ _ _ _)
   | (with_reducible exact ih2 _ _ _ _ _)
   | (with_reducible exact impl_Net_ups.mono _ _ _ _ _ _)
   | (with_reducible exact slices_Contains_int_int.mono _ _ _)
   | (with_reducible exact slices_Sort_int_int.mono _ _)
   | (with_reducible exact LeO.refl _)
   | (with_reducible exact LeO.none _)
   | (with_reducible refine LeO.ite ?_ ?_)
   | (with_reducible refine LeO.bind ?_ (fun _ => ?_))
   | exact ih0 _ _ _ _ _ _ _
   | exact ih1 _ _ _ _ _ _
   | exact ih2 _ _ _ _ _
   | exact impl_Net_ups.mono _ _ _ _ _ _
   | exact slices_Contains_int_int.mono _ _ _
   | exact slices_Sort_int_int.mono _ _
   | exact LeO.none _
   | refine LeO.ite ?_ ?_
   | refine LeO.bind ?_ (fun _ => ?_)
def impl_TreeWay.T4 : Bool × List (List Nat × List Nat):=(true,[([],[]),([],[]),([1],[1]),([],[]),([2,3],[2,3]),([4],[4]),([0,5],[0,5]),([6],[6]),([],[]),([],[]),([9],[9]),([],[]),([10,11],[10,11]),([12],[12]),([8,13],[8,13]),([14],[14]),([7,15],[7,15])])
def impl_TreeWay.B4 : List Nat:=[0,0,2,0,14,30,63,127,0,0,512,0,3584,7680,16128,32512,65535]
theorem impl_TreeWay.tab4 : rtab .any (opsOf Try.f35 4) = impl_TreeWay.T4:=by kernel_rfl
theorem impl_TreeWay.bits4 : waitsOk impl_TreeWay.T4.2 impl_TreeWay.B4 = true:=by kernel_rfl
def impl_TreeWay.T6 : Bool × List (List Nat × List Nat):=(true,[([],[]),([],[]),([1],[1]),([],[]),([2,3],[2,3]),([4],[4]),([0,5],[0,5]),([],[]),([],[]),([8],[8]),([],[]),([9,10],[9,10]),([11],[11]),([7,12,6],[7,12]),([6,13,0,1,2,3,4,5,6],[6]),([13,14,0,1,2,3,4,5,6,7,8,9,10,11,12,13,14],[13])])
def impl_TreeWay.B6 : List Nat:=[0,0,2,0,14,30,63,0,0,256,0,1792,3840,8191,16383,32767]
theorem impl_TreeWay.tab6 : rtab .any (opsOf Try.f35 6) = impl_TreeWay.T6:=by kernel_rfl
theorem impl_TreeWay.bits6 : waitsOk impl_TreeWay.T6.2 impl_TreeWay.B6 = true:=by kernel_rfl
set_option maxHeartbeats 8000000 in
set_option maxRecDepth 100000 in
theorem impl_TreeWay.calls (k : Nat) (a0_0 : Int) (A0_1 : Option Addr) (c0_1 : Nat) (l0_1 : List (S51)) (A0_2 : Option Addr) (c0_2 : Nat) (l0_2 : List Int) (A0_3 : Option Addr) (c0_3 : Nat) (l0_3 : List Int) (a1 : Int) (a2 : Int) (r : List Int) (w : World) (hr0_1 : Kd.C k51 w A0_1 l0_1.length l0_1) (hc0_1 : l0_1.length ≤ c0_1) (hr0_2 : Kd.C (Kd.int .i64) w A0_2 l0_2.length l0_2) (hc0_2 : l0_2.length ≤ c0_2) (hr0_3 : Kd.C (Kd.int .i64) w A0_3 l0_3.length l0_3) (hc0_3 : l0_3.length ≤ c0_3) (h : impl_TreeWay.f k a0_0 l0_1 l0_2 l0_3 a1 a2 = some r) :
  Calls Try.prog 35 #[.agg #[.int .i64 a0_0,.slice A0_1 l0_1.length c0_1,.slice A0_2 l0_2.length c0_2,.slice A0_3 l0_3.length c0_3],.int .i64 a1,.int .i64 a2] w fun e w' => ∃ v0_ : Value,e = .returned (v0_) ∧ Kd.R (Kd.int .i64) 3 w' w.heap.size (fun _ => True) v0_ r ∧ Below w.heap.size w w':=by
 have hu30:=Try.underlying30
 have HR0_1:=mk_ hr0_1
 have HC0_1:=mk_ hc0_1
 clear hr0_1 hc0_1
 have HR0_2:=mk_ hr0_2
 have HC0_2:=mk_ hc0_2
 clear hr0_2 hc0_2
 have HR0_3:=mk_ hr0_3
 have HC0_3:=mk_ hc0_3
 clear hr0_3 hc0_3
 have HB:=mk_ (Below.refl w.heap.size w)
 have H : ((impl_Net_station.f a0_0 l0_1 l0_2 l0_3 a1).bind fun t383 => (if t383 = true then ((impl_Net_station.f a0_0 l0_1 l0_2 l0_3 a2).bind fun t384 => (impl_TreeWay.j0 k a1 a2 (!t384) a0_0 l0_1 l0_2 l0_3)) else (impl_TreeWay.j0 k a1 a2 true a0_0 l0_1 l0_2 l0_3))) = some r:=h
 clear h
 have HC4:=mk_ H
 clear H
 go_enter Try.func35,Try.ntmps35
 go_upto_region 1 with (first|((with_reducible refine gate_dst (N:=3) rfl ?_);refine box_event ?hg (N:=3) ?hd (cs:=#[.int .i64 a0_0,.slice A0_1 l0_1.length c0_1,.slice A0_2 l0_2.length c0_2,.slice A0_3 l0_3.length c0_3]) (t:=30) ?hr ?_;(case hd => rfl);(case hg => rfl);(case hr => first|(go_simp;done)|(go_simp;rfl));intro gb382 hg w5 hbox hb;have n0_:=mk_ (st_ (qb_ HB) hb);have n1_:=mk_ (hbox);have n2_:=mk_ ((by rw [hg];exact (bz_ (qb_ HB)) : w.heap.size ≤ gb382));have n3_:=mk_ ((by rw [hg];exact (bz_ (qb_ HB)) : w.heap.size ≤ gb382));clear HB;have HB:=n0_;have BK382:=n1_;have GW382:=n2_;have GE382:=n3_;clear n0_ n1_ n2_ n3_;clear hb hbox hg))
 (try simp only [Act.put,sx_,sy_,sz_])
 go_cut [24] (fun v24 wc => ∃ (kq : Nat) (x24_3 : Bool),v24 = .bool x24_3 ∧ Aside0 (impl_TreeWay.j0 kq a1 a2 x24_3 a0_0 l0_1 l0_2 l0_3 = some r) ∧ Aside0 (kq ≤ k) ∧ Aside0 (wc.heap[gb382]? = some (.cells #[.int .i64 a0_0,(.slice A0_1 l0_1.length c0_1),(.slice A0_2 l0_2.length c0_2),(.slice A0_3 l0_3.length c0_3)] 30 (0,0))) ∧ Aside0 (Below w.heap.size w wc))
 case first =>
  have H:=HC4.out
  clear HC4
  replace H:=Option.bind_eq_some_iff.mp H
  obtain ⟨t383,A60,H⟩:=H
  replace H : (if t383 = true then ((impl_Net_station.f a0_0 l0_1 l0_2 l0_3 a2).bind fun t384 => (impl_TreeWay.j0 k a1 a2 (!t384) a0_0 l0_1 l0_2 l0_3)) else (impl_TreeWay.j0 k a1 a2 true a0_0 l0_1 l0_2 l0_3)) = some r:=H
  have A6:=mk_ A60
  clear A60
  by_cases c7 : t383 = true
  ·subst c7
   have H1 : ((impl_Net_station.f a0_0 l0_1 l0_2 l0_3 a2).bind fun t384 => (impl_TreeWay.j0 k a1 a2 (!t384) a0_0 l0_1 l0_2 l0_3)) = some r:=by rw [if_pos rfl] at H;exact H
   clear H
   have H:=H1
   clear H1
   replace H:=Option.bind_eq_some_iff.mp H
   obtain ⟨t384,A80,H⟩:=H
   replace H : (impl_TreeWay.j0 k a1 a2 (!t384) a0_0 l0_1 l0_2 l0_3) = some r:=H
   have A8:=mk_ A80
   clear A80
   have H':=mk_ H
   clear H
   have hcz9_0 : w5.cell? ⟨gb382,0,none⟩ = some (.int .i64 a0_0):=(bc_ BK382.out 0).trans rfl
   have hcz9_1 : w5.cell? ⟨gb382,1,none⟩ = some (.slice A0_1 l0_1.length c0_1):=(bc_ BK382.out 1).trans rfl
   have hcz9_2 : w5.cell? ⟨gb382,2,none⟩ = some (.slice A0_2 l0_2.length c0_2):=(bc_ BK382.out 2).trans rfl
   have hcz9_3 : w5.cell? ⟨gb382,3,none⟩ = some (.slice A0_3 l0_3.length c0_3):=(bc_ BK382.out 3).trans rfl
   have hfz9_0:=bf_ BK382.out 0
   have hfz9_1:=bf_ BK382.out 1
   have hfz9_2:=bf_ BK382.out 2
   have hfz9_3:=bf_ BK382.out 3
   go_wp2_with (first|((with_reducible refine gate_callee (f:=54) rfl ?_);refine goesL_ (some 17) rfl rfl Try.func54 (by kernel_rfl) rfl #[.agg #[.int .i64 a0_0,.slice A0_1 l0_1.length c0_1,.slice A0_2 l0_2.length c0_2,.slice A0_3 l0_3.length c0_3],.int .i64 a1] rfl qm_ ?_;(with_reducible refine (impl_Net_station.calls a0_0 _ _ l0_1 _ _ l0_2 _ _ l0_3 a1 true _ ?side1 ?side2 ?side3 ?side4 ?side5 ?side6 A6.out).mono ?_);(case side1 => exact qn_ HR0_1 HB);(case side2 => exact HC0_1.out);(case side3 => exact qn_ HR0_2 HB);(case side4 => exact HC0_2.out);(case side5 => exact qn_ HR0_3 HB);(case side6 => exact HC0_3.out);rintro e w10 ⟨rfl,hb⟩;refine ⟨_,rfl,?_⟩;have n0_:=mk_ (blk_below (g:=gb382) (o:=.cells #[.int .i64 a0_0,.slice A0_1 l0_1.length c0_1,.slice A0_2 l0_2.length c0_2,.slice A0_3 l0_3.length c0_3] 30 (0,0)) (qk_ BK382) hb);have n1_:=mk_ (st_ (qc_ HB GE382) hb);clear BK382;clear HB;have BK382:=n0_;have HB:=n1_;clear n0_ n1_;(try clear hb);(try clear hb2);(try clear hk);(try clear hi);have hcz11_0 : w10.cell? ⟨gb382,0,none⟩ = some (.int .i64 a0_0):=(bc_ BK382.out 0).trans rfl;have hcz11_1 : w10.cell? ⟨gb382,1,none⟩ = some (.slice A0_1 l0_1.length c0_1):=(bc_ BK382.out 1).trans rfl;have hcz11_2 : w10.cell? ⟨gb382,2,none⟩ = some (.slice A0_2 l0_2.length c0_2):=(bc_ BK382.out 2).trans rfl;have hcz11_3 : w10.cell? ⟨gb382,3,none⟩ = some (.slice A0_3 l0_3.length c0_3):=(bc_ BK382.out 3).trans rfl;have hfz11_0:=bf_ BK382.out 0;have hfz11_1:=bf_ BK382.out 1;have hfz11_2:=bf_ BK382.out 2;have hfz11_3:=bf_ BK382.out 3)|(go_at_call 54;(with_reducible refine (impl_Net_station.calls a0_0 _ _ l0_1 _ _ l0_2 _ _ l0_3 a2 t384 _ ?side1 ?side2 ?side3 ?side4 ?side5 ?side6 A8.out).mono ?_);(case side1 => exact qn_ HR0_1 HB);(case side2 => exact HC0_1.out);(case side3 => exact qn_ HR0_2 HB);(case side4 => exact HC0_2.out);(case side5 => exact qn_ HR0_3 HB);(case side6 => exact HC0_3.out);rintro e w12 ⟨rfl,hb⟩;have n0_:=mk_ (blk_below (g:=gb382) (o:=.cells #[.int .i64 a0_0,.slice A0_1 l0_1.length c0_1,.slice A0_2 l0_2.length c0_2,.slice A0_3 l0_3.length c0_3] 30 (0,0)) (qk_ BK382) hb);have n1_:=mk_ (st_ (qc_ HB GE382) hb);clear BK382;clear HB;have BK382:=n0_;have HB:=n1_;clear n0_ n1_;(try clear hb);(try clear hb2);(try clear hk);(try clear hi)))
   go_meet
   case rel => exact ⟨_,(!t384),qf_,H',⟨by first|omega|exact Nat.le_refl _⟩,⟨qk_ BK382⟩,⟨u1_ HB GE382⟩⟩
  ·replace c7:=Bool.eq_false_iff.mpr c7
   subst c7
   have H1 : (impl_TreeWay.j0 k a1 a2 true a0_0 l0_1 l0_2 l0_3) = some r:=by rw [if_neg (show ¬ (false = true) by decide)] at H;exact H
   clear H
   have H:=H1
   clear H1
   have H':=mk_ H
   clear H
   have hcz13_0 : w5.cell? ⟨gb382,0,none⟩ = some (.int .i64 a0_0):=(bc_ BK382.out 0).trans rfl
   have hcz13_1 : w5.cell? ⟨gb382,1,none⟩ = some (.slice A0_1 l0_1.length c0_1):=(bc_ BK382.out 1).trans rfl
   have hcz13_2 : w5.cell? ⟨gb382,2,none⟩ = some (.slice A0_2 l0_2.length c0_2):=(bc_ BK382.out 2).trans rfl
   have hcz13_3 : w5.cell? ⟨gb382,3,none⟩ = some (.slice A0_3 l0_3.length c0_3):=(bc_ BK382.out 3).trans rfl
   have hfz13_0:=bf_ BK382.out 0
   have hfz13_1:=bf_ BK382.out 1
   have hfz13_2:=bf_ BK382.out 2
   have hfz13_3:=bf_ BK382.out 3
   go_wp2_with (first|((with_reducible refine gate_callee (f:=54) rfl ?_);refine goesL_ (some 17) rfl rfl Try.func54 (by kernel_rfl) rfl #[.agg #[.int .i64 a0_0,.slice A0_1 l0_1.length c0_1,.slice A0_2 l0_2.length c0_2,.slice A0_3 l0_3.length c0_3],.int .i64 a1] rfl qm_ ?_;(with_reducible refine (impl_Net_station.calls a0_0 _ _ l0_1 _ _ l0_2 _ _ l0_3 a1 false _ ?side1 ?side2 ?side3 ?side4 ?side5 ?side6 A6.out).mono ?_);(case side1 => exact qn_ HR0_1 HB);(case side2 => exact HC0_1.out);(case side3 => exact qn_ HR0_2 HB);(case side4 => exact HC0_2.out);(case side5 => exact qn_ HR0_3 HB);(case side6 => exact HC0_3.out);rintro e w14 ⟨rfl,hb⟩;refine ⟨_,rfl,?_⟩;have n0_:=mk_ (blk_below (g:=gb382) (o:=.cells #[.int .i64 a0_0,.slice A0_1 l0_1.length c0_1,.slice A0_2 l0_2.length c0_2,.slice A0_3 l0_3.length c0_3] 30 (0,0)) (qk_ BK382) hb);have n1_:=mk_ (st_ (qc_ HB GE382) hb);clear BK382;clear HB;have BK382:=n0_;have HB:=n1_;clear n0_ n1_;(try clear hb);(try clear hb2);(try clear hk);(try clear hi)))
   go_meet
   case rel => exact ⟨_,(true),qf_,H',⟨by first|omega|exact Nat.le_refl _⟩,⟨qk_ BK382⟩,⟨u1_ HB GE382⟩⟩
 case rest =>
  clear HC4
  try clear p2
  try clear c3
  try clear c5
  try clear c7
  try clear hcz11_0
  try clear hcz11_1
  try clear hcz11_2
  try clear hcz11_3
  try clear hcz13_0
  try clear hcz13_1
  try clear hcz13_2
  try clear hcz13_3
  try clear hcz9_0
  try clear hcz9_1
  try clear hcz9_2
  try clear hcz9_3
  try clear hfz11_0
  try clear hfz11_1
  try clear hfz11_2
  try clear hfz11_3
  try clear hfz13_0
  try clear hfz13_1
  try clear hfz13_2
  try clear hfz13_3
  try clear hfz9_0
  try clear hfz9_1
  try clear hfz9_2
  try clear hfz9_3
  obtain ⟨kq,x24_3,rfl,HA,HJ3,BK382,HB⟩:=hcut
  cases kq with
  | zero => exact absurd HA.out (by simp [impl_TreeWay.j0])
  | succ kj3 =>
   have H:=HA.out
   clear HA
   simp only [impl_TreeWay.j0] at H
   by_cases c15 : x24_3 = true
   ·subst c15
    have H1 : (some ([] : List Int)) = some r:=by rw [if_pos rfl] at H;exact H
    clear H
    have H:=H1
    clear H1
    obtain rfl:=Option.some.inj H
    go_wp2
    go_ret
    exact ⟨_,qe_,by first|exact Kd.R_nil _ _ _ _ _|exact Kd.N_nil _ _ _ _ _|exact Kd.V_nil _ _ _ _ _|exact Kd.Q_nil _ _ _ _ _|exact Kd.S_nil _ _ _ _ _,u1_ HB GE382⟩
   ·replace c15:=Bool.eq_false_iff.mpr c15
    subst c15
    have H1 : ((impl_rootsOf.f a0_0 l0_1).bind fun t385 => (if 0 ≤ a1 then (if a1 < (l0_2.length : Int) then (if 0 ≤ (rd l0_2 a1) then (if (rd l0_2 a1) < (t385.length : Int) then (if 0 ≤ a2 then (if a2 < (l0_2.length : Int) then (if 0 ≤ (rd l0_2 a2) then (if (rd l0_2 a2) < (t385.length : Int) then (if (rd t385 (rd l0_2 a1)) = (rd t385 (rd l0_2 a2)) then ((impl_Net_ups.f kj3 a0_0 l0_1 l0_2 l0_3 (rd l0_2 a1)).bind fun t393 => ((impl_Net_ups.f kj3 a0_0 l0_1 l0_2 l0_3 (rd l0_2 a2)).bind fun t397 => (impl_TreeWay.l0 kj3 t393 t397 ([] : List Int) t393 (t393.length : Int) 0))) else (some ([] : List Int))) else (none)) else (none)) else (none)) else (none)) else (none)) else (none)) else (none)) else (none))) = some r:=by rw [if_neg (show ¬ (false = true) by decide)] at H;exact H
    clear H
    have H:=H1
    clear H1
    replace H:=Option.bind_eq_some_iff.mp H
    obtain ⟨t385,A160,H⟩:=H
    replace H : (if 0 ≤ a1 then (if a1 < (l0_2.length : Int) then (if 0 ≤ (rd l0_2 a1) then (if (rd l0_2 a1) < (t385.length : Int) then (if 0 ≤ a2 then (if a2 < (l0_2.length : Int) then (if 0 ≤ (rd l0_2 a2) then (if (rd l0_2 a2) < (t385.length : Int) then (if (rd t385 (rd l0_2 a1)) = (rd t385 (rd l0_2 a2)) then ((impl_Net_ups.f kj3 a0_0 l0_1 l0_2 l0_3 (rd l0_2 a1)).bind fun t393 => ((impl_Net_ups.f kj3 a0_0 l0_1 l0_2 l0_3 (rd l0_2 a2)).bind fun t397 => (impl_TreeWay.l0 kj3 t393 t397 ([] : List Int) t393 (t393.length : Int) 0))) else (some ([] : List Int))) else (none)) else (none)) else (none)) else (none)) else (none)) else (none)) else (none)) else (none)) = some r:=H
    have A16:=mk_ A160
    clear A160
    by_cases c17 : 0 ≤ a1
    ·rw [if_pos c17] at H
     have c17b0 : decide (0 ≤ a1) = true:=decide_eq_true c17
     clear c17
     by_cases c18 : a1 < (l0_2.length : Int)
     ·rw [if_pos c18] at H
      have c18b0 : decide (a1 < (l0_2.length : Int)) = true:=decide_eq_true c18
      clear c18
      by_cases c19 : 0 ≤ (rd l0_2 a1)
      ·rw [if_pos c19] at H
       have c19b0 : decide (0 ≤ (rd l0_2 a1)) = true:=decide_eq_true c19
       clear c19
       by_cases c20 : (rd l0_2 a1) < (t385.length : Int)
       ·rw [if_pos c20] at H
        have c20b0 : decide ((rd l0_2 a1) < (t385.length : Int)) = true:=decide_eq_true c20
        clear c20
        by_cases c21 : 0 ≤ a2
        ·rw [if_pos c21] at H
         have c21b0 : decide (0 ≤ a2) = true:=decide_eq_true c21
         clear c21
         by_cases c22 : a2 < (l0_2.length : Int)
         ·rw [if_pos c22] at H
          have c22b0 : decide (a2 < (l0_2.length : Int)) = true:=decide_eq_true c22
          clear c22
          by_cases c23 : 0 ≤ (rd l0_2 a2)
          ·rw [if_pos c23] at H
           have c23b0 : decide (0 ≤ (rd l0_2 a2)) = true:=decide_eq_true c23
           clear c23
           by_cases c24 : (rd l0_2 a2) < (t385.length : Int)
           ·rw [if_pos c24] at H
            have c24b0 : decide ((rd l0_2 a2) < (t385.length : Int)) = true:=decide_eq_true c24
            clear c24
            by_cases c25 : (rd t385 (rd l0_2 a1)) = (rd t385 (rd l0_2 a2))
            ·rw [if_pos c25] at H
             have c25b0 : ((rd t385 (rd l0_2 a1)) == (rd t385 (rd l0_2 a2))) = true:=beq_iff_eq.mpr c25
             have c25b1 : ((rd t385 (rd l0_2 a1)) != (rd t385 (rd l0_2 a2))) = false:=bne_eq_false_iff_eq.mpr c25
             clear c25
             replace H:=Option.bind_eq_some_iff.mp H
             obtain ⟨t393,A260,H⟩:=H
             replace H : ((impl_Net_ups.f kj3 a0_0 l0_1 l0_2 l0_3 (rd l0_2 a2)).bind fun t397 => (impl_TreeWay.l0 kj3 t393 t397 ([] : List Int) t393 (t393.length : Int) 0)) = some r:=H
             have A26:=mk_ A260
             clear A260
             replace H:=Option.bind_eq_some_iff.mp H
             obtain ⟨t397,A270,H⟩:=H
             replace H : (impl_TreeWay.l0 kj3 t393 t397 ([] : List Int) t393 (t393.length : Int) 0) = some r:=H
             have A27:=mk_ A270
             clear A270
             have H':=mk_ H
             clear H
             have hcz28_0 : wc.cell? ⟨gb382,0,none⟩ = some (.int .i64 a0_0):=(bc_ BK382.out 0).trans rfl
             have hcz28_1 : wc.cell? ⟨gb382,1,none⟩ = some (.slice A0_1 l0_1.length c0_1):=(bc_ BK382.out 1).trans rfl
             have hcz28_2 : wc.cell? ⟨gb382,2,none⟩ = some (.slice A0_2 l0_2.length c0_2):=(bc_ BK382.out 2).trans rfl
             have hcz28_3 : wc.cell? ⟨gb382,3,none⟩ = some (.slice A0_3 l0_3.length c0_3):=(bc_ BK382.out 3).trans rfl
             have hfz28_0:=bf_ BK382.out 0
             have hfz28_1:=bf_ BK382.out 1
             have hfz28_2:=bf_ BK382.out 2
             have hfz28_3:=bf_ BK382.out 3
             try go_wp2_with (first|((with_reducible refine gate_callee (f:=55) rfl ?_);refine goesL_ (some 29) rfl rfl Try.func55 (by kernel_rfl) rfl #[.int .i64 a0_0,.slice A0_1 l0_1.length c0_1] rfl qm_ ?_;(with_reducible refine (impl_rootsOf.calls a0_0 _ _ l0_1 t385 _ ?side1 ?side2 A16.out).mono ?_);(case side1 => exact qn_ HR0_1 HB);(case side2 => exact HC0_1.out);rintro e w29 ⟨v386,rfl,ho0,hb⟩;refine ⟨_,rfl,?_⟩;have n0_:=mk_ (Kd.R_lower ho0 (bz_ (qc_ HB GE382)));have n1_:=mk_ (blk_below (g:=gb382) (o:=.cells #[.int .i64 a0_0,.slice A0_1 l0_1.length c0_1,.slice A0_2 l0_2.length c0_2,.slice A0_3 l0_3.length c0_3] 30 (0,0)) (qk_ BK382) hb);have n2_:=mk_ (st_ (qc_ HB GE382) hb);clear BK382;clear HB;have HO387:=n0_;have BK382:=n1_;have HB:=n2_;clear n0_ n1_ n2_;(try clear hb);(try clear hb2);(try clear hk);(try clear hi);(try clear ho0)))
             have n0_:=mk_ (rd_ HO387.out)
             have n1_:=mk_ (kd_ BK382.out)
             have n2_:=mk_ (bd_ HB.out)
             clear HO387
             clear BK382
             clear HB
             have HO387:=n0_
             have BK382:=n1_
             have HB:=n2_
             clear n0_ n1_ n2_
             have p388 : 0 ≤ (a1 : Int):=od_ qa_
             have q388 : a1 < (l0_2.length : Int):=od_ qa_
             obtain ⟨ad388,e388,hx388_0⟩:=Kd.at_int HR0_2.out a1 p388 q388
             have hw388_0:=hx388_0
             cases e388
             replace hx388_0:=(HB.out.cell (wl_ w _ hx388_0)).trans hx388_0
             replace p388:=eq_true p388
             replace q388:=eq_true q388
             obtain ⟨Ao31,co31,eo31⟩:=Kd.R_slice HO387.out
             (first|subst eo31|(injection eo31 with f1_ f2_ f3_;have f4_:=f1_.symm;have f5_:=f3_.symm;clear f1_ f2_ f3_;subst f4_;subst f5_))
             have p389 : 0 ≤ ((rd l0_2 a1) : Int):=od_ qa_
             have q389 : (rd l0_2 a1) < (t385.length : Int):=od_ qa_
             obtain ⟨ad389,e389,hx389_0⟩:=Kd.at_int (rr_ HO387.out).2.2 (rd l0_2 a1) p389 q389
             cases e389
             replace p389:=eq_true p389
             replace q389:=eq_true q389
             have p390 : 0 ≤ (a2 : Int):=od_ qa_
             have q390 : a2 < (l0_2.length : Int):=od_ qa_
             obtain ⟨ad390,e390,hx390_0⟩:=Kd.at_int HR0_2.out a2 p390 q390
             have hw390_0:=hx390_0
             obtain rfl : ad388 = ad390:=(by injection e390)
             replace hx390_0:=(HB.out.cell (wl_ w _ hx390_0)).trans hx390_0
             replace p390:=eq_true p390
             replace q390:=eq_true q390
             have p391 : 0 ≤ ((rd l0_2 a2) : Int):=od_ qa_
             have q391 : (rd l0_2 a2) < (t385.length : Int):=od_ qa_
             obtain ⟨ad391,e391,hx391_0⟩:=Kd.at_int (rr_ HO387.out).2.2 (rd l0_2 a2) p391 q391
             obtain rfl : ad389 = ad391:=(by injection e391)
             replace p391:=eq_true p391
             replace q391:=eq_true q391
             refine start_ (n:=17) (S:=fun w' => w'.cell? ⟨gb382,0,none⟩ = some (.int .i64 a0_0) ∧ w'.cell? ⟨gb382,1,none⟩ = some (.slice A0_1 l0_1.length c0_1) ∧ w'.cell? ⟨gb382,2,none⟩ = some (.slice (some ad388) l0_2.length c0_2) ∧ w'.cell? ⟨gb382,3,none⟩ = some (.slice A0_3 l0_3.length c0_3) ∧ w'.cell? (ad388.add (a1).toNat) = some (.int .i64 (rd l0_2 a1)) ∧ w'.cell? (ad389.add ((rd l0_2 a1)).toNat) = some (.int .i64 (rd t385 (rd l0_2 a1))) ∧ w'.cell? (ad388.add (a2).toNat) = some (.int .i64 (rd l0_2 a2)) ∧ w'.cell? (ad389.add ((rd l0_2 a2)).toNat) = some (.int .i64 (rd t385 (rd l0_2 a2)))) (ds:=[]) #[false,false,false,false,false,false,false,false,false,false,false,false,false,false,false,false,false] (by kernel_rfl) rfl rfl ⟨(bc_ BK382.out 0).trans rfl,(bc_ BK382.out 1).trans rfl,(bc_ BK382.out 2).trans rfl,(bc_ BK382.out 3).trans rfl,((HB.out.cell (wl_ w _ hw388_0)).trans hw388_0),hx389_0,((HB.out.cell (wl_ w _ hw390_0)).trans hw390_0),hx391_0⟩ (fun hHeld => ?_);refine with_tabW impl_TreeWay.tab4 impl_TreeWay.bits4 (fun HT_ HW_ => ?_)
             generalize w29.drew = w30 at HO387 BK382 HB hx388_0 hx389_0 hx390_0 hx391_0 hHeld ⊢
             refine pure_ (i:=0) (N:=some 30) (v:=?_) (a':=?_) #[true,false,false,false,false,false,false,false,false,false,false,false,false,false,false,false,false] rfl rfl (any_of HT_.out (by kernel_rfl)) (fun _ _ _ h => h) (Or.inl ⟨by rfl,?_⟩) ?_ ?_
             rotate_left
             ·intro w'
              go_simp
              with_reducible rfl
             rotate_left
             ·simp only [Act.put,sx_,sy_,sz_,i64_w,i32_w]
              rfl
             refine pure_ (i:=1) (N:=some 31) (v:=?_) (a':=?_) #[true,true,false,false,false,false,false,false,false,false,false,false,false,false,false,false,false] rfl rfl (any_of HT_.out (by kernel_rfl)) (fun _ _ _ h => h) (Or.inl ⟨by rfl,?_⟩) ?_ ?_
             rotate_left
             ·intro w'
              go_simp
              with_reducible rfl
             rotate_left
             ·simp only [Act.put,sx_,sy_,sz_,i64_w,i32_w]
              rfl
             refine pure_ (i:=3) (N:=some 33) (v:=?_) (a':=?_) #[true,true,false,true,false,false,false,false,false,false,false,false,false,false,false,false,false] rfl rfl (any_of HT_.out (by kernel_rfl)) (fun _ _ _ h => h) (Or.inl ⟨by rfl,?_⟩) ?_ ?_
             rotate_left
             ·intro w'
              go_simp
              with_reducible rfl
             rotate_left
             ·simp only [Act.put,sx_,sy_,sz_,i64_w,i32_w]
              rfl
             refine pure_ (i:=8) (N:=some 38) (v:=?_) (a':=?_) #[true,true,false,true,false,false,false,false,true,false,false,false,false,false,false,false,false] rfl rfl (any_of HT_.out (by kernel_rfl)) (fun _ _ _ h => h) (Or.inl ⟨by rfl,?_⟩) ?_ ?_
             rotate_left
             ·intro w'
              go_simp
              with_reducible rfl
             rotate_left
             ·simp only [Act.put,sx_,sy_,sz_,i64_w,i32_w]
              rfl
             refine pure_ (i:=9) (N:=some 39) (v:=?_) (a':=?_) #[true,true,false,true,false,false,false,false,true,true,false,false,false,false,false,false,false] rfl rfl (any_of HT_.out (by kernel_rfl)) (fun _ _ _ h => h) (Or.inl ⟨by rfl,?_⟩) ?_ ?_
             rotate_left
             ·intro w'
              go_simp
              with_reducible rfl
             rotate_left
             ·simp only [Act.put,sx_,sy_,sz_,i64_w,i32_w]
              rfl
             refine pure_ (i:=11) (N:=some 41) (v:=?_) (a':=?_) #[true,true,false,true,false,false,false,false,true,true,false,true,false,false,false,false,false] rfl rfl (any_of HT_.out (by kernel_rfl)) (fun _ _ _ h => h) (Or.inl ⟨by rfl,?_⟩) ?_ ?_
             rotate_left
             ·intro w'
              go_simp
              with_reducible rfl
             rotate_left
             ·simp only [Act.put,sx_,sy_,sz_,i64_w,i32_w]
              rfl
             refine take_ (i:=2) (N:=some 32) (v:=?_) (a':=?_) #[true,true,true,true,false,false,false,false,true,true,false,true,false,false,false,false,false] rfl rfl (take_ofW HT_.out HW_.out (by kernel_rfl)) (fun _ _ _ h => h) (Or.inl ⟨by rfl,?_⟩) hHeld ?_ ?_
             rotate_left
             ·rintro w' ⟨s0,s1,s2,s3,s4,s5,s6,s7⟩
              go_simp
              with_reducible rfl
             rotate_left
             ·simp only [Act.put,sx_,sy_,sz_,i64_w,i32_w]
              rfl
             refine pure_ (i:=4) (N:=some 34) (v:=?_) (a':=?_) #[true,true,true,true,true,false,false,false,true,true,false,true,false,false,false,false,false] rfl rfl (any_of HT_.out (by kernel_rfl)) (fun _ _ _ h => h) (Or.inl ⟨by rfl,?_⟩) ?_ ?_
             rotate_left
             ·intro w'
              go_simp
              with_reducible rfl
             rotate_left
             ·simp only [Act.put,sx_,sy_,sz_,i64_w,i32_w]
              rfl
             refine take_ (i:=5) (N:=some 35) (v:=?_) (a':=?_) #[true,true,true,true,true,true,false,false,true,true,false,true,false,false,false,false,false] rfl rfl (take_ofW HT_.out HW_.out (by kernel_rfl)) (fun _ _ _ h => h) (Or.inl ⟨by rfl,?_⟩) hHeld ?_ ?_
             rotate_left
             ·rintro w' ⟨s0,s1,s2,s3,s4,s5,s6,s7⟩
              go_simp
              with_reducible rfl
             rotate_left
             ·simp only [Act.put,sx_,sy_,sz_,i64_w,i32_w]
              rfl
             refine pure_ (i:=6) (N:=some 36) (v:=?_) (a':=?_) #[true,true,true,true,true,true,true,false,true,true,false,true,false,false,false,false,false] rfl rfl (any_of HT_.out (by kernel_rfl)) (fun _ _ _ h => h) (Or.inl ⟨by rfl,?_⟩) ?_ ?_
             rotate_left
             ·intro w'
              go_simp
              with_reducible rfl
             rotate_left
             ·simp only [Act.put,sx_,sy_,sz_,i64_w,i32_w]
              rfl
             refine take_ (i:=7) (N:=some 37) (v:=?_) (a':=?_) #[true,true,true,true,true,true,true,true,true,true,false,true,false,false,false,false,false] rfl rfl (take_ofW HT_.out HW_.out (by kernel_rfl)) (fun _ _ _ h => h) (Or.inl ⟨by rfl,?_⟩) hHeld ?_ ?_
             rotate_left
             ·rintro w' ⟨s0,s1,s2,s3,s4,s5,s6,s7⟩
              go_simp
              with_reducible rfl
             rotate_left
             ·simp only [Act.put,sx_,sy_,sz_,i64_w,i32_w]
              rfl
             refine take_ (i:=10) (N:=some 40) (v:=?_) (a':=?_) #[true,true,true,true,true,true,true,true,true,true,true,true,false,false,false,false,false] rfl rfl (take_ofW HT_.out HW_.out (by kernel_rfl)) (fun _ _ _ h => h) (Or.inl ⟨by rfl,?_⟩) hHeld ?_ ?_
             rotate_left
             ·rintro w' ⟨s0,s1,s2,s3,s4,s5,s6,s7⟩
              go_simp
              with_reducible rfl
             rotate_left
             ·simp only [Act.put,sx_,sy_,sz_,i64_w,i32_w]
              rfl
             refine pure_ (i:=12) (N:=some 42) (v:=?_) (a':=?_) #[true,true,true,true,true,true,true,true,true,true,true,true,true,false,false,false,false] rfl rfl (any_of HT_.out (by kernel_rfl)) (fun _ _ _ h => h) (Or.inl ⟨by rfl,?_⟩) ?_ ?_
             rotate_left
             ·intro w'
              go_simp
              with_reducible rfl
             rotate_left
             ·simp only [Act.put,sx_,sy_,sz_,i64_w,i32_w]
              rfl
             refine take_ (i:=13) (N:=some 43) (v:=?_) (a':=?_) #[true,true,true,true,true,true,true,true,true,true,true,true,true,true,false,false,false] rfl rfl (take_ofW HT_.out HW_.out (by kernel_rfl)) (fun _ _ _ h => h) (Or.inl ⟨by rfl,?_⟩) hHeld ?_ ?_
             rotate_left
             ·rintro w' ⟨s0,s1,s2,s3,s4,s5,s6,s7⟩
              go_simp
              with_reducible rfl
             rotate_left
             ·simp only [Act.put,sx_,sy_,sz_,i64_w,i32_w]
              rfl
             refine pure_ (i:=14) (N:=some 44) (v:=?_) (a':=?_) #[true,true,true,true,true,true,true,true,true,true,true,true,true,true,true,false,false] rfl rfl (any_of HT_.out (by kernel_rfl)) (fun _ _ _ h => h) (Or.inl ⟨by rfl,?_⟩) ?_ ?_
             rotate_left
             ·intro w'
              go_simp
              with_reducible rfl
             rotate_left
             ·simp only [Act.put,sx_,sy_,sz_,i64_w,i32_w]
              rfl
             refine take_ (i:=15) (N:=some 45) (v:=?_) (a':=?_) #[true,true,true,true,true,true,true,true,true,true,true,true,true,true,true,true,false] rfl rfl (take_ofW HT_.out HW_.out (by kernel_rfl)) (fun _ _ _ h => h) (Or.inl ⟨by rfl,?_⟩) hHeld ?_ ?_
             rotate_left
             ·rintro w' ⟨s0,s1,s2,s3,s4,s5,s6,s7⟩
              go_simp
              with_reducible rfl
             rotate_left
             ·simp only [Act.put,sx_,sy_,sz_,i64_w,i32_w]
              rfl
             refine pure_ (i:=16) (N:=some 46) (v:=?_) (a':=?_) #[true,true,true,true,true,true,true,true,true,true,true,true,true,true,true,true,true] rfl rfl (any_of HT_.out (by kernel_rfl)) (fun _ _ _ h => h) (Or.inl ⟨by rfl,?_⟩) ?_ ?_
             rotate_left
             ·intro w'
              go_simp
              with_reducible rfl
             rotate_left
             ·simp only [Act.put,sx_,sy_,sz_,i64_w,i32_w]
              rfl
             refine done_ (done_of HT_.out (by kernel_rfl)) ?_
             try go_wp2
             have n0_:=mk_ (rd_ HO387.out)
             have n1_:=mk_ (kd_ BK382.out)
             have n2_:=mk_ (bd_ HB.out)
             clear HO387
             clear BK382
             clear HB
             have HO387:=n0_
             have BK382:=n1_
             have HB:=n2_
             clear n0_ n1_ n2_
             have p392 : 0 ≤ (a1 : Int):=od_ qa_
             have q392 : a1 < (l0_2.length : Int):=od_ qa_
             obtain ⟨ad392,e392,hx392_0⟩:=Kd.at_int HR0_2.out a1 p392 q392
             have hw392_0:=hx392_0
             obtain rfl : ad388 = ad392:=(by injection e392)
             replace hx392_0:=(HB.out.cell (wl_ w _ hx392_0)).trans hx392_0
             replace p392:=eq_true p392
             replace q392:=eq_true q392
             have p396 : 0 ≤ (a2 : Int):=od_ qa_
             have q396 : a2 < (l0_2.length : Int):=od_ qa_
             obtain ⟨ad396,e396,hx396_0⟩:=Kd.at_int HR0_2.out a2 p396 q396
             have hw396_0:=hx396_0
             obtain rfl : ad388 = ad396:=(by injection e396)
             replace hx396_0:=(HB.out.cell (wl_ w _ hx396_0)).trans hx396_0
             replace p396:=eq_true p396
             replace q396:=eq_true q396
             refine start_ (n:=16) (S:=fun w' => w'.cell? ⟨gb382,0,none⟩ = some (.int .i64 a0_0) ∧ w'.cell? ⟨gb382,1,none⟩ = some (.slice A0_1 l0_1.length c0_1) ∧ w'.cell? ⟨gb382,2,none⟩ = some (.slice (some ad388) l0_2.length c0_2) ∧ w'.cell? ⟨gb382,3,none⟩ = some (.slice A0_3 l0_3.length c0_3) ∧ w'.cell? (ad388.add (a1).toNat) = some (.int .i64 (rd l0_2 a1)) ∧ w'.cell? (ad388.add (a2).toNat) = some (.int .i64 (rd l0_2 a2))) (ds:=[]) #[false,false,false,false,false,false,false,false,false,false,false,false,false,false,false,false] (by kernel_rfl) rfl rfl ⟨(bc_ BK382.out 0).trans rfl,(bc_ BK382.out 1).trans rfl,(bc_ BK382.out 2).trans rfl,(bc_ BK382.out 3).trans rfl,((HB.out.cell (wl_ w _ hw392_0)).trans hw392_0),((HB.out.cell (wl_ w _ hw396_0)).trans hw396_0)⟩ (fun hHeld => ?_);refine with_tabW impl_TreeWay.tab6 impl_TreeWay.bits6 (fun HT_ HW_ => ?_)
             generalize w30.drew = w32 at HO387 BK382 HB hx392_0 hx396_0 hHeld ⊢
             refine pure_ (i:=1) (N:=some 48) (v:=?_) (a':=?_) #[false,true,false,false,false,false,false,false,false,false,false,false,false,false,false,false] rfl rfl (any_of HT_.out (by kernel_rfl)) (fun _ _ _ h => h) (Or.inl ⟨by rfl,?_⟩) ?_ ?_
             rotate_left
             ·intro w'
              go_simp
              with_reducible rfl
             rotate_left
             ·simp only [Act.put,sx_,sy_,sz_,i64_w,i32_w]
              rfl
             refine pure_ (i:=3) (N:=some 50) (v:=?_) (a':=?_) #[false,true,false,true,false,false,false,false,false,false,false,false,false,false,false,false] rfl rfl (any_of HT_.out (by kernel_rfl)) (fun _ _ _ h => h) (Or.inl ⟨by rfl,?_⟩) ?_ ?_
             rotate_left
             ·intro w'
              go_simp
              with_reducible rfl
             rotate_left
             ·simp only [Act.put,sx_,sy_,sz_,i64_w,i32_w]
              rfl
             refine pure_ (i:=8) (N:=some 55) (v:=?_) (a':=?_) #[false,true,false,true,false,false,false,false,true,false,false,false,false,false,false,false] rfl rfl (any_of HT_.out (by kernel_rfl)) (fun _ _ _ h => h) (Or.inl ⟨by rfl,?_⟩) ?_ ?_
             rotate_left
             ·intro w'
              go_simp
              with_reducible rfl
             rotate_left
             ·simp only [Act.put,sx_,sy_,sz_,i64_w,i32_w]
              rfl
             refine pure_ (i:=10) (N:=some 57) (v:=?_) (a':=?_) #[false,true,false,true,false,false,false,false,true,false,true,false,false,false,false,false] rfl rfl (any_of HT_.out (by kernel_rfl)) (fun _ _ _ h => h) (Or.inl ⟨by rfl,?_⟩) ?_ ?_
             rotate_left
             ·intro w'
              go_simp
              with_reducible rfl
             rotate_left
             ·simp only [Act.put,sx_,sy_,sz_,i64_w,i32_w]
              rfl
             refine take_ (i:=0) (N:=some 47) (v:=?_) (a':=?_) #[true,true,false,true,false,false,false,false,true,false,true,false,false,false,false,false] rfl rfl (take_ofW HT_.out HW_.out (by kernel_rfl)) (fun _ _ _ h => h) (Or.inl ⟨by rfl,?_⟩) hHeld ?_ ?_
             rotate_left
             ·rintro w' ⟨s0,s1,s2,s3,s4,s5⟩
              go_simp
              with_reducible rfl
             rotate_left
             ·simp only [Act.put,sx_,sy_,sz_,i64_w,i32_w]
              rfl
             refine take_ (i:=2) (N:=some 49) (v:=?_) (a':=?_) #[true,true,true,true,false,false,false,false,true,false,true,false,false,false,false,false] rfl rfl (take_ofW HT_.out HW_.out (by kernel_rfl)) (fun _ _ _ h => h) (Or.inl ⟨by rfl,?_⟩) hHeld ?_ ?_
             rotate_left
             ·rintro w' ⟨s0,s1,s2,s3,s4,s5⟩
              go_simp
              with_reducible rfl
             rotate_left
             ·simp only [Act.put,sx_,sy_,sz_,i64_w,i32_w]
              rfl
             refine pure_ (i:=4) (N:=some 51) (v:=?_) (a':=?_) #[true,true,true,true,true,false,false,false,true,false,true,false,false,false,false,false] rfl rfl (any_of HT_.out (by kernel_rfl)) (fun _ _ _ h => h) (Or.inl ⟨by rfl,?_⟩) ?_ ?_
             rotate_left
             ·intro w'
              go_simp
              with_reducible rfl
             rotate_left
             ·simp only [Act.put,sx_,sy_,sz_,i64_w,i32_w]
              rfl
             refine take_ (i:=5) (N:=some 52) (v:=?_) (a':=?_) #[true,true,true,true,true,true,false,false,true,false,true,false,false,false,false,false] rfl rfl (take_ofW HT_.out HW_.out (by kernel_rfl)) (fun _ _ _ h => h) (Or.inl ⟨by rfl,?_⟩) hHeld ?_ ?_
             rotate_left
             ·rintro w' ⟨s0,s1,s2,s3,s4,s5⟩
              go_simp
              with_reducible rfl
             rotate_left
             ·simp only [Act.put,sx_,sy_,sz_,i64_w,i32_w]
              rfl
             refine take_ (i:=7) (N:=some 54) (v:=?_) (a':=?_) #[true,true,true,true,true,true,false,true,true,false,true,false,false,false,false,false] rfl rfl (take_ofW HT_.out HW_.out (by kernel_rfl)) (fun _ _ _ h => h) (Or.inl ⟨by rfl,?_⟩) hHeld ?_ ?_
             rotate_left
             ·rintro w' ⟨s0,s1,s2,s3,s4,s5⟩
              go_simp
              with_reducible rfl
             rotate_left
             ·simp only [Act.put,sx_,sy_,sz_,i64_w,i32_w]
              rfl
             refine take_ (i:=9) (N:=some 56) (v:=?_) (a':=?_) #[true,true,true,true,true,true,false,true,true,true,true,false,false,false,false,false] rfl rfl (take_ofW HT_.out HW_.out (by kernel_rfl)) (fun _ _ _ h => h) (Or.inl ⟨by rfl,?_⟩) hHeld ?_ ?_
             rotate_left
             ·rintro w' ⟨s0,s1,s2,s3,s4,s5⟩
              go_simp
              with_reducible rfl
             rotate_left
             ·simp only [Act.put,sx_,sy_,sz_,i64_w,i32_w]
              rfl
             refine pure_ (i:=11) (N:=some 58) (v:=?_) (a':=?_) #[true,true,true,true,true,true,false,true,true,true,true,true,false,false,false,false] rfl rfl (any_of HT_.out (by kernel_rfl)) (fun _ _ _ h => h) (Or.inl ⟨by rfl,?_⟩) ?_ ?_
             rotate_left
             ·intro w'
              go_simp
              with_reducible rfl
             rotate_left
             ·simp only [Act.put,sx_,sy_,sz_,i64_w,i32_w]
              rfl
             refine take_ (i:=12) (N:=some 59) (v:=?_) (a':=?_) #[true,true,true,true,true,true,false,true,true,true,true,true,true,false,false,false] rfl rfl (take_ofW HT_.out HW_.out (by kernel_rfl)) (fun _ _ _ h => h) (Or.inl ⟨by rfl,?_⟩) hHeld ?_ ?_
             rotate_left
             ·rintro w' ⟨s0,s1,s2,s3,s4,s5⟩
              go_simp
              with_reducible rfl
             rotate_left
             ·simp only [Act.put,sx_,sy_,sz_,i64_w,i32_w]
              rfl
             refine one_ (i:=6) (N:=some 53) #[true,true,true,true,true,true,true,true,true,true,true,true,true,false,false,false] rfl rfl (one_of HT_.out (by kernel_rfl)) (by decide) (fun K hK => ?_)
             refine goes_ Try.func66 (by kernel_rfl) rfl #[.agg #[.int .i64 a0_0,.slice A0_1 l0_1.length c0_1,.slice (some ad388) l0_2.length c0_2,.slice A0_3 l0_3.length c0_3],.int .i64 (rd l0_2 a1)] (by rfl) rfl rfl qm_ ?_
             with_reducible refine (impl_Net_ups.calls kj3 a0_0 _ _ l0_1 _ _ l0_2 _ _ l0_3 (rd l0_2 a1) t393 _ ?side1 ?side2 ?side3 ?side4 ?side5 ?side6 A26.out).mono ?_
             (case side1 => exact qn_ HR0_1 HB)
             (case side2 => exact HC0_1.out)
             (case side3 => exact qn_ HR0_2 HB)
             (case side4 => exact HC0_2.out)
             (case side5 => exact qn_ HR0_3 HB)
             (case side6 => exact HC0_3.out)
             rintro e w33 ⟨v394,rfl,ho0,hb⟩
             refine ⟨_,rfl,?_⟩
             have n0_:=mk_ (re_ (qr_ HO387) (Kd.R_base ho0) hb)
             have n1_:=mk_ (Kd.R_lower (Kd.R_new' ho0 (Kd.R_lt (qr_ HO387))) (bz_ (qc_ HB GE382)))
             have n2_:=mk_ (blk_below (g:=gb382) (o:=.cells #[.int .i64 a0_0,.slice A0_1 l0_1.length c0_1,.slice (some ad388) l0_2.length c0_2,.slice A0_3 l0_3.length c0_3] 30 (0,0)) (qk_ BK382) hb)
             have n3_:=mk_ (st_ (qc_ HB GE382) hb)
             clear HO387
             clear BK382
             clear HB
             have HO387:=n0_
             have HO395:=n1_
             have BK382:=n2_
             have HB:=n3_
             clear n0_ n1_ n2_ n3_
             (try clear hb)
             (try clear hb2)
             (try clear hk)
             (try clear hi)
             (try clear ho0)
             refine hK.out _ _ ⟨(bc_ BK382.out 0).trans rfl,(bc_ BK382.out 1).trans rfl,(bc_ BK382.out 2).trans rfl,(bc_ BK382.out 3).trans rfl,((HB.out.cell (wl_ w _ hw392_0)).trans hw392_0),((HB.out.cell (wl_ w _ hw396_0)).trans hw396_0)⟩ (fun hHeld => ?_)
             clear hK K
             refine norm_ (a':=?_) ?_ ?_
             rotate_left
             ·show Act.put _ (some 53) _ = _
              simp only [Act.put,sx_,sy_,sz_,i64_w,i32_w]
              rfl
             refine one_ (i:=13) (N:=some 60) #[true,true,true,true,true,true,true,true,true,true,true,true,true,true,false,false] rfl rfl (one_of HT_.out (by kernel_rfl)) (by decide) (fun K hK => ?_)
             refine goes_ Try.func66 (by kernel_rfl) rfl #[.agg #[.int .i64 a0_0,.slice A0_1 l0_1.length c0_1,.slice (some ad388) l0_2.length c0_2,.slice A0_3 l0_3.length c0_3],.int .i64 (rd l0_2 a2)] (by rfl) rfl rfl qm_ ?_
             with_reducible refine (impl_Net_ups.calls kj3 a0_0 _ _ l0_1 _ _ l0_2 _ _ l0_3 (rd l0_2 a2) t397 _ ?side1 ?side2 ?side3 ?side4 ?side5 ?side6 A27.out).mono ?_
             (case side1 => exact qn_ HR0_1 HB)
             (case side2 => exact HC0_1.out)
             (case side3 => exact qn_ HR0_2 HB)
             (case side4 => exact HC0_2.out)
             (case side5 => exact qn_ HR0_3 HB)
             (case side6 => exact HC0_3.out)
             rintro e w34 ⟨v398,rfl,ho0,hb⟩
             refine ⟨_,rfl,?_⟩
             have n0_:=mk_ (re_ (qr_ HO387) (Kd.R_base ho0) hb)
             have n1_:=mk_ (re_ (qr_ HO395) (Kd.R_base ho0) hb)
             have n2_:=mk_ (Kd.R_lower (Kd.R_new' (Kd.R_new' ho0 (Kd.R_lt (qr_ HO387))) (Kd.R_lt (qr_ HO395))) (bz_ (qc_ HB GE382)))
             have n3_:=mk_ (blk_below (g:=gb382) (o:=.cells #[.int .i64 a0_0,.slice A0_1 l0_1.length c0_1,.slice (some ad388) l0_2.length c0_2,.slice A0_3 l0_3.length c0_3] 30 (0,0)) (qk_ BK382) hb)
             have n4_:=mk_ (st_ (qc_ HB GE382) hb)
             clear HO387
             clear HO395
             clear BK382
             clear HB
             have HO387:=n0_
             have HO395:=n1_
             have HO399:=n2_
             have BK382:=n3_
             have HB:=n4_
             clear n0_ n1_ n2_ n3_ n4_
             (try clear hb)
             (try clear hb2)
             (try clear hk)
             (try clear hi)
             (try clear ho0)
             refine hK.out _ _ ⟨(bc_ BK382.out 0).trans rfl,(bc_ BK382.out 1).trans rfl,(bc_ BK382.out 2).trans rfl,(bc_ BK382.out 3).trans rfl,((HB.out.cell (wl_ w _ hw392_0)).trans hw392_0),((HB.out.cell (wl_ w _ hw396_0)).trans hw396_0)⟩ (fun hHeld => ?_)
             clear hK K
             refine norm_ (a':=?_) ?_ ?_
             rotate_left
             ·show Act.put _ (some 60) _ = _
              simp only [Act.put,sx_,sy_,sz_,i64_w,i32_w]
              rfl
             refine pure_ (i:=14) (N:=some 8) (v:=?_) (a':=?_) #[true,true,true,true,true,true,true,true,true,true,true,true,true,true,true,false] rfl rfl (any_of HT_.out (by kernel_rfl)) (fun _ _ _ h => h) (Or.inl ⟨by rfl,?_⟩) ?_ ?_
             rotate_left
             ·intro w'
              go_simp
              with_reducible rfl
             rotate_left
             ·simp only [Act.put,sx_,sy_,sz_,i64_w,i32_w]
              rfl
             refine pure_ (i:=15) (N:=some 9) (v:=?_) (a':=?_) #[true,true,true,true,true,true,true,true,true,true,true,true,true,true,true,true] rfl rfl (any_of HT_.out (by kernel_rfl)) (fun _ _ _ h => h) (Or.inl ⟨by rfl,?_⟩) ?_ ?_
             rotate_left
             ·intro w'
              go_simp
              with_reducible rfl
             rotate_left
             ·simp only [Act.put,sx_,sy_,sz_,i64_w,i32_w]
              rfl
             refine done_ (done_of HT_.out (by kernel_rfl)) ?_
             obtain ⟨Ao35,co35,eo35⟩:=Kd.R_slice HO395.out
             subst eo35
             try go_wp2
             go_loopg [10,63] kj3 (fun kq v10 v63 w' => ∃ (x10_2 : List Int) (x63_2 : Int),v63 = .int .i64 x63_2 ∧ Aside0 (impl_TreeWay.l0 kq t393 t397 x10_2 t393 (t393.length : Int) x63_2 = some r) ∧ Aside0 (kq ≤ kj3) ∧ Aside0 (Kd.R (Kd.int .i64) 3 w' w.heap.size (fun k_ => some k_ ≠ (v398 : Value).ownBlock ∧ some k_ ≠ (v10 : Value).ownBlock) (.slice Ao35 t393.length co35) t393) ∧ Aside0 (Kd.R (Kd.int .i64) 3 w' w.heap.size (fun k_ => some k_ ≠ ((.slice Ao35 t393.length co35) : Value).ownBlock ∧ some k_ ≠ (v10 : Value).ownBlock ∧ some k_ ≠ ((.slice Ao35 t393.length co35) : Value).ownBlock) v398 t397) ∧ Aside0 (Kd.R (Kd.int .i64) 3 w' w.heap.size (fun k_ => some k_ ≠ ((.slice Ao35 t393.length co35) : Value).ownBlock ∧ some k_ ≠ (v398 : Value).ownBlock ∧ some k_ ≠ ((.slice Ao35 t393.length co35) : Value).ownBlock) v10 x10_2) ∧ Aside0 (Kd.R (Kd.int .i64) 3 w' w.heap.size (fun k_ => some k_ ≠ (v398 : Value).ownBlock ∧ some k_ ≠ (v10 : Value).ownBlock) (.slice Ao35 t393.length co35) t393) ∧ Aside0 (w'.heap[gb382]? = some (.cells #[.int .i64 a0_0,(.slice A0_1 l0_1.length c0_1),(.slice (some ad388) l0_2.length c0_2),(.slice A0_3 l0_3.length c0_3)] 30 (0,0))) ∧ Aside0 (Below w.heap.size w w'))
             case atStart => exact ⟨(([] : List Int)),(0),qf_,H',⟨Nat.le_refl _⟩,⟨by (with_reducible repeat (first|apply ra_|apply rn_|apply rd_));exact rm_ HO395.out (fun _ hk => ⟨hk.2,(by simp [Value.ownBlock])⟩)⟩,⟨by (with_reducible repeat (first|apply ra_|apply rn_|apply rd_));exact rm_ HO399.out (fun _ hk => ⟨hk.2,⟨(by simp [Value.ownBlock]),hk.2⟩⟩)⟩,⟨by first|exact Kd.R_nil _ _ _ _ _|exact Kd.N_nil _ _ _ _ _|exact Kd.V_nil _ _ _ _ _|exact Kd.Q_nil _ _ _ _ _|exact Kd.S_nil _ _ _ _ _⟩,⟨by (with_reducible repeat (first|apply ra_|apply rn_|apply rd_));exact rm_ HO395.out (fun _ hk => ⟨hk.2,(by simp [Value.ownBlock])⟩)⟩,⟨qk_ BK382⟩,⟨u1_ HB GE382⟩⟩
             case round =>
              clear H'
              try clear c1
              try clear c2
              try clear p2
              try clear c3
              try clear p3
              try clear q3
              try clear hx3
              try clear c5
              try clear c6
              try clear c7
              try clear c15
              try clear c17
              try clear c17b0
              try clear c18
              try clear c18b0
              try clear c19
              try clear c19b0
              try clear c20
              try clear c20b0
              try clear c21
              try clear c21b0
              try clear c22
              try clear c22b0
              try clear c23
              try clear c23b0
              try clear c24
              try clear c24b0
              try clear c25
              try clear c25b0
              try clear c25b1
              try clear c35
              try clear hcz11_0
              try clear hcz11_1
              try clear hcz11_2
              try clear hcz11_3
              try clear hcz13_0
              try clear hcz13_1
              try clear hcz13_2
              try clear hcz13_3
              try clear hcz28_0
              try clear hcz28_1
              try clear hcz28_2
              try clear hcz28_3
              try clear hcz9_0
              try clear hcz9_1
              try clear hcz9_2
              try clear hcz9_3
              try clear hfz11_0
              try clear hfz11_1
              try clear hfz11_2
              try clear hfz11_3
              try clear hfz13_0
              try clear hfz13_1
              try clear hfz13_2
              try clear hfz13_3
              try clear hfz28_0
              try clear hfz28_1
              try clear hfz28_2
              try clear hfz28_3
              try clear hfz9_0
              try clear hfz9_1
              try clear hfz9_2
              try clear hfz9_3
              try clear hx388_0
              try clear hx389_0
              try clear hx390_0
              try clear hx391_0
              try clear hx392_0
              try clear hx396_0
              try clear p2
              try clear p388
              try clear p389
              try clear p390
              try clear p391
              try clear p392
              try clear p396
              try clear q388
              try clear q389
              try clear q390
              try clear q391
              try clear q392
              try clear q396
              obtain ⟨x10_2,x63_2,rfl,HA,HK2,HO_8,HO_9,HO_10,HO_61,BK382,HB⟩:=hrel
              cases gk with
              | zero => exact absurd HA.out (by simp [impl_TreeWay.l0])
              | succ k2 =>
               have H:=HA.out
               clear HA
               simp only [impl_TreeWay.l0] at H
               by_cases c36 : x63_2 < (t393.length : Int)
               ·rw [if_pos c36] at H
                have c36b0 : decide (x63_2 < (t393.length : Int)) = true:=decide_eq_true c36
                clear c36
                by_cases c37 : 0 ≤ x63_2
                ·rw [if_pos c37] at H
                 have c37b0 : decide (0 ≤ x63_2) = true:=decide_eq_true c37
                 clear c37
                 by_cases c38 : x63_2 < (t393.length : Int)
                 ·rw [if_pos c38] at H
                  have c38b0 : decide (x63_2 < (t393.length : Int)) = true:=decide_eq_true c38
                  clear c38
                  replace H:=Option.bind_eq_some_iff.mp H
                  obtain ⟨t401,A390,H⟩:=H
                  replace H : (if t401 = true then (impl_TreeWay.l0 k2 t393 t397 x10_2 t393 (t393.length : Int) (wrap64 (x63_2 + 1))) else (if x10_2.length < 17592186044416 then (impl_TreeWay.l0 k2 t393 t397 (x10_2 ++ [rd t393 x63_2]) t393 (t393.length : Int) (wrap64 (x63_2 + 1))) else (none))) = some r:=H
                  have A39:=mk_ A390
                  clear A390
                  by_cases c40 : t401 = true
                  ·subst c40
                   have H1 : (impl_TreeWay.l0 k2 t393 t397 x10_2 t393 (t393.length : Int) (wrap64 (x63_2 + 1))) = some r:=by rw [if_pos rfl] at H;exact H
                   clear H
                   have H:=H1
                   clear H1
                   have H':=mk_ H
                   clear H
                   have p400 : 0 ≤ (x63_2 : Int):=od_ qa_
                   have q400 : x63_2 < (t393.length : Int):=od_ qa_
                   obtain ⟨ad400,e400,hx400_0⟩:=Kd.at_int (rr_ HO_61.out).2.2 x63_2 p400 q400
                   cases e400
                   replace p400:=eq_true p400
                   replace q400:=eq_true q400
                   obtain ⟨Ao41,co41,eo41⟩:=Kd.R_slice HO_9.out
                   subst eo41
                   go_wp2_with (first|((with_reducible refine gate_callee (f:=67) rfl ?_);refine goesL_ (some 69) rfl rfl Try.func67 (by kernel_rfl) rfl #[.slice Ao41 t397.length co41,.int .i64 (rd t393 x63_2)] rfl qm_ ?_;(with_reducible refine (slices_Contains_int_int.calls k2 _ _ t397 (rd t393 x63_2) true _ ?side1 ?side2 A39.out).mono ?_);(case side1 => repeat (first|exact (rr_ HO_9.out).2.2|(with_reducible refine ca_ ?_ _)|(with_reducible refine cn_ ?_ _)|(with_reducible refine cd_ ?_)));(case side2 => exact (rr_ HO_9.out).2.1);rintro e w' ⟨rfl,⟨nd,rfl⟩⟩;refine ⟨_,rfl,?_⟩))
                   go_roundg k2
                   case measure => have:=HJ3.out;have:=HK2.out;omega
                   case rel => exact ⟨(x10_2),(wrap64 (x63_2 + 1)),qf_,H',⟨by have:=HJ3.out;have:=HK2.out;omega⟩,⟨qr_ HO_8⟩,⟨qr_ HO_9⟩,⟨qr_ HO_10⟩,⟨qr_ HO_61⟩,⟨qk_ BK382⟩,⟨u1_ HB GE382⟩⟩
                  ·replace c40:=Bool.eq_false_iff.mpr c40
                   subst c40
                   have H1 : (if x10_2.length < 17592186044416 then (impl_TreeWay.l0 k2 t393 t397 (x10_2 ++ [rd t393 x63_2]) t393 (t393.length : Int) (wrap64 (x63_2 + 1))) else (none)) = some r:=by rw [if_neg (show ¬ (false = true) by decide)] at H;exact H
                   clear H
                   have H:=H1
                   clear H1
                   by_cases c42 : x10_2.length < 17592186044416
                   ·rw [if_pos c42] at H
                    have LMc42:=mk_ c42
                    clear c42
                    obtain ⟨y402,hy402⟩ : ∃ y_ : List Int,y_ = (x10_2 ++ [rd t393 x63_2]):=⟨_,rfl⟩
                    replace H : (impl_TreeWay.l0 k2 t393 t397 y402 t393 (t393.length : Int) (wrap64 (x63_2 + 1))) = some r:=by first|(rw [hy402];with_reducible exact H)|(have H2_:=(Option.bind_some _ _).symm.trans H;rw [hy402];with_reducible exact H2_)|(have H2_:=(Option.bind_some _ _).symm.trans H;with_reducible exact H2_)|with_reducible exact H|(rw [hy402];exact H)|exact H
                    have Ny402:=mk_ hy402
                    clear hy402
                    have H':=mk_ H
                    clear H
                    have p400 : 0 ≤ (x63_2 : Int):=od_ qa_
                    have q400 : x63_2 < (t393.length : Int):=od_ qa_
                    obtain ⟨ad400,e400,hx400_0⟩:=Kd.at_int (rr_ HO_61.out).2.2 x63_2 p400 q400
                    cases e400
                    replace p400:=eq_true p400
                    replace q400:=eq_true q400
                    obtain ⟨Ao43,co43,eo43⟩:=Kd.R_slice HO_9.out
                    subst eo43
                    go_wp2_with (first|((with_reducible refine gate_callee (f:=67) rfl ?_);refine goesL_ (some 69) rfl rfl Try.func67 (by kernel_rfl) rfl #[.slice Ao43 t397.length co43,.int .i64 (rd t393 x63_2)] rfl qm_ ?_;(with_reducible refine (slices_Contains_int_int.calls k2 _ _ t397 (rd t393 x63_2) false _ ?side1 ?side2 A39.out).mono ?_);(case side1 => repeat (first|exact (rr_ HO_9.out).2.2|(with_reducible refine ca_ ?_ _)|(with_reducible refine cn_ ?_ _)|(with_reducible refine cd_ ?_)));(case side2 => exact (rr_ HO_9.out).2.1);rintro e w' ⟨rfl,⟨nd,rfl⟩⟩;refine ⟨_,rfl,?_⟩)|((with_reducible refine gate_builtin (b:=.append) (xs:=#[.tmp 71,.tmp 73]) rfl ?_);at_builtin;refine Kd.R_append (Kd.int .i64) (w0:=w) w.heap.size rfl (.tmp 71) (.tmp 73) 23 3 (.int .i64 0) 8 rfl Try.underlying23 info3 rfl (by decide) (by omega) u10 x10_2 (rd t393 x63_2) [.int .i64 (rd t393 x63_2)] (fun k_ => some k_ ≠ (.slice (some ad400) t393.length co35 : Value).ownBlock ∧ some k_ ≠ (.slice Ao43 t397.length co43 : Value).ownBlock ∧ some k_ ≠ (.slice (some ad400) t393.length co35 : Value).ownBlock) (fun _ => False) rfl rfl ?aP (fun _ hk => hk.elim) ?aF ?aO ?aB ?aS ?aL ?_;(case aP => exact rfl);(case aB => exact (qc_ HB GE382));(case aF => exact (fun k_ hk => ⟨Kd.fresh' (Kd.R_lt (qr_ HO_8)) k_ hk,Kd.fresh' (Kd.R_lt (qr_ HO_9)) k_ hk,Kd.fresh' (Kd.R_lt (qr_ HO_61)) k_ hk⟩));(case aO => exact (qr_ HO_10));(case aS => exact (bz_ (qc_ HB GE382)));(case aL => have:=LMc42.out;omega);intro v403 w44 ho hb hg hat;rw [← Ny402.out] at ho;have n0_:=mk_ (Kd.R_after (ok:=(fun k_ => some k_ ≠ (.slice Ao43 t397.length co43 : Value).ownBlock)) (qr_ HO_8) hg hat);have n1_:=mk_ (Kd.R_after (ok:=(fun k_ => some k_ ≠ (.slice (some ad400) t393.length co35 : Value).ownBlock ∧ some k_ ≠ (.slice (some ad400) t393.length co35 : Value).ownBlock)) (by (with_reducible repeat (first|apply ra_|apply rn_|apply rd_));exact rm_ HO_9.out (fun _ hk => ⟨⟨hk.1,hk.2.2⟩,hk.2.1⟩)) hg hat);have n2_:=mk_ (Kd.R_after (ok:=(fun k_ => some k_ ≠ (.slice Ao43 t397.length co43 : Value).ownBlock)) (qr_ HO_61) hg hat);have n3_:=mk_ (blk_grown (g:=gb382) (o:=.cells #[.int .i64 a0_0,.slice A0_1 l0_1.length c0_1,.slice (some ad388) l0_2.length c0_2,.slice A0_3 l0_3.length c0_3] 30 (0,0)) (qk_ BK382) hg (Kd.R_ne HO_10.out BK382.out (by decide)));have n4_:=mk_ (hb);have n5_:=mk_ (ho);clear HO_8;clear HO_9;clear HO_61;clear BK382;clear HB;clear HO_10;have HO_8:=n0_;have HO_9:=n1_;have HO_61:=n2_;have BK382:=n3_;have HB:=n4_;have HO404:=n5_;clear n0_ n1_ n2_ n3_ n4_ n5_;clear ho hb hg hat))
                    go_roundg k2
                    case measure => have:=HJ3.out;have:=HK2.out;omega
                    case rel => exact ⟨(y402),(wrap64 (x63_2 + 1)),qf_,H',⟨by have:=HJ3.out;have:=HK2.out;omega⟩,⟨qr_ HO_8⟩,⟨by (with_reducible repeat (first|apply ra_|apply rn_|apply rd_));exact rm_ HO_9.out (fun _ hk => ⟨hk.1.1,⟨hk.2,hk.1.2⟩⟩)⟩,⟨qr_ HO404⟩,⟨qr_ HO_61⟩,⟨qk_ BK382⟩,⟨u1_ HB GE382⟩⟩
                   ·rw [if_neg c42] at H
                    exact absurd H (by simp)
                 ·rw [if_neg c38] at H
                  exact absurd H (by simp)
                ·rw [if_neg c37] at H
                 exact absurd H (by simp)
               ·rw [if_neg c36] at H
                have c36b0 : decide (x63_2 < (t393.length : Int)) = false:=decide_eq_false c36
                clear c36
                have H':=mk_ H
                clear H
                obtain ⟨Ao45,co45,eo45⟩:=Kd.R_slice HO_9.out
                subst eo45
                go_wp2
                go_loopg [10,78] k2 (fun kq v10 v78 w' => ∃ (x10_3 : List Int) (x78_3 : Int),v78 = .int .i64 x78_3 ∧ Aside0 (impl_TreeWay.l1 kq t393 x10_3 t397 (t397.length : Int) x78_3 = some r) ∧ Aside0 (kq ≤ k2) ∧ Aside0 (Kd.R (Kd.int .i64) 3 w' w.heap.size (fun k_ => some k_ ≠ (v10 : Value).ownBlock ∧ some k_ ≠ ((.slice Ao45 t397.length co45) : Value).ownBlock) (.slice Ao35 t393.length co35) t393) ∧ Aside0 (Kd.R (Kd.int .i64) 3 w' w.heap.size (fun k_ => some k_ ≠ ((.slice Ao35 t393.length co35) : Value).ownBlock ∧ some k_ ≠ ((.slice Ao45 t397.length co45) : Value).ownBlock) v10 x10_3) ∧ Aside0 (Kd.R (Kd.int .i64) 3 w' w.heap.size (fun k_ => some k_ ≠ ((.slice Ao35 t393.length co35) : Value).ownBlock ∧ some k_ ≠ (v10 : Value).ownBlock) (.slice Ao45 t397.length co45) t397) ∧ Aside0 (w'.heap[gb382]? = some (.cells #[.int .i64 a0_0,(.slice A0_1 l0_1.length c0_1),(.slice (some ad388) l0_2.length c0_2),(.slice A0_3 l0_3.length c0_3)] 30 (0,0))) ∧ Aside0 (Below w.heap.size w w'))
                case atStart => exact ⟨(x10_2),(0),qf_,H',⟨Nat.le_refl _⟩,⟨by (with_reducible repeat (first|apply ra_|apply rn_|apply rd_));exact rm_ HO_8.out (fun _ hk => ⟨hk.2,hk.1⟩)⟩,⟨by (with_reducible repeat (first|apply ra_|apply rn_|apply rd_));exact rm_ HO_10.out (fun _ hk => ⟨hk.1,hk.2.1⟩)⟩,⟨by (with_reducible repeat (first|apply ra_|apply rn_|apply rd_));exact rm_ HO_9.out (fun _ hk => ⟨hk.1,hk.2.1⟩)⟩,⟨qk_ BK382⟩,⟨u1_ HB GE382⟩⟩
                case round =>
                 clear H'
                 try clear c1
                 try clear c2
                 try clear p2
                 try clear c3
                 try clear p3
                 try clear q3
                 try clear hx3
                 try clear c4
                 try clear p4
                 try clear q4
                 try clear hx4
                 try clear c5
                 try clear c6
                 try clear p6
                 try clear c7
                 try clear c15
                 try clear c17
                 try clear c17b0
                 try clear c18
                 try clear c18b0
                 try clear c19
                 try clear c19b0
                 try clear c20
                 try clear c20b0
                 try clear c21
                 try clear c21b0
                 try clear c22
                 try clear c22b0
                 try clear c23
                 try clear c23b0
                 try clear c24
                 try clear c24b0
                 try clear c25
                 try clear c25b0
                 try clear c25b1
                 try clear c35
                 try clear c36
                 try clear c36b0
                 try clear c37
                 try clear c37b0
                 try clear c38
                 try clear c38b0
                 try clear p38
                 try clear q38
                 try clear hx38
                 try clear p39
                 try clear q39
                 try clear hx39
                 try clear c40
                 try clear p40
                 try clear q40
                 try clear hx40
                 try clear c42
                 try clear hcz11_0
                 try clear hcz11_1
                 try clear hcz11_2
                 try clear hcz11_3
                 try clear hcz13_0
                 try clear hcz13_1
                 try clear hcz13_2
                 try clear hcz13_3
                 try clear hcz28_0
                 try clear hcz28_1
                 try clear hcz28_2
                 try clear hcz28_3
                 try clear hcz9_0
                 try clear hcz9_1
                 try clear hcz9_2
                 try clear hcz9_3
                 try clear hfz11_0
                 try clear hfz11_1
                 try clear hfz11_2
                 try clear hfz11_3
                 try clear hfz13_0
                 try clear hfz13_1
                 try clear hfz13_2
                 try clear hfz13_3
                 try clear hfz28_0
                 try clear hfz28_1
                 try clear hfz28_2
                 try clear hfz28_3
                 try clear hfz9_0
                 try clear hfz9_1
                 try clear hfz9_2
                 try clear hfz9_3
                 try clear hx388_0
                 try clear hx389_0
                 try clear hx390_0
                 try clear hx391_0
                 try clear hx392_0
                 try clear hx396_0
                 try clear hx400_0
                 try clear p2
                 try clear p3
                 try clear p388
                 try clear p389
                 try clear p390
                 try clear p391
                 try clear p392
                 try clear p396
                 try clear p400
                 try clear q3
                 try clear q388
                 try clear q389
                 try clear q390
                 try clear q391
                 try clear q392
                 try clear q396
                 try clear q400
                 obtain ⟨x10_3,x78_3,rfl,HA,HK3,HO_8,HO_10,HO_76,BK382,HB⟩:=hrel
                 cases gk with
                 | zero => exact absurd HA.out (by simp [impl_TreeWay.l1])
                 | succ k3 =>
                  have H:=HA.out
                  clear HA
                  simp only [impl_TreeWay.l1] at H
                  by_cases c46 : x78_3 < (t397.length : Int)
                  ·rw [if_pos c46] at H
                   have c46b0 : decide (x78_3 < (t397.length : Int)) = true:=decide_eq_true c46
                   clear c46
                   by_cases c47 : 0 ≤ x78_3
                   ·rw [if_pos c47] at H
                    have c47b0 : decide (0 ≤ x78_3) = true:=decide_eq_true c47
                    clear c47
                    by_cases c48 : x78_3 < (t397.length : Int)
                    ·rw [if_pos c48] at H
                     have c48b0 : decide (x78_3 < (t397.length : Int)) = true:=decide_eq_true c48
                     clear c48
                     replace H:=Option.bind_eq_some_iff.mp H
                     obtain ⟨t406,A490,H⟩:=H
                     replace H : (if t406 = true then (impl_TreeWay.l1 k3 t393 x10_3 t397 (t397.length : Int) (wrap64 (x78_3 + 1))) else (if x10_3.length < 17592186044416 then (impl_TreeWay.l1 k3 t393 (x10_3 ++ [rd t397 x78_3]) t397 (t397.length : Int) (wrap64 (x78_3 + 1))) else (none))) = some r:=H
                     have A49:=mk_ A490
                     clear A490
                     by_cases c50 : t406 = true
                     ·subst c50
                      have H1 : (impl_TreeWay.l1 k3 t393 x10_3 t397 (t397.length : Int) (wrap64 (x78_3 + 1))) = some r:=by rw [if_pos rfl] at H;exact H
                      clear H
                      have H:=H1
                      clear H1
                      have H':=mk_ H
                      clear H
                      have p405 : 0 ≤ (x78_3 : Int):=od_ qa_
                      have q405 : x78_3 < (t397.length : Int):=od_ qa_
                      obtain ⟨ad405,e405,hx405_0⟩:=Kd.at_int (rr_ HO_76.out).2.2 x78_3 p405 q405
                      cases e405
                      replace p405:=eq_true p405
                      replace q405:=eq_true q405
                      go_wp2_with (first|((with_reducible refine gate_callee (f:=67) rfl ?_);refine goesL_ (some 84) rfl rfl Try.func67 (by kernel_rfl) rfl #[.slice Ao35 t393.length co35,.int .i64 (rd t397 x78_3)] rfl qm_ ?_;(with_reducible refine (slices_Contains_int_int.calls k3 _ _ t393 (rd t397 x78_3) true _ ?side1 ?side2 A49.out).mono ?_);(case side1 => repeat (first|exact (rr_ HO_8.out).2.2|(with_reducible refine ca_ ?_ _)|(with_reducible refine cn_ ?_ _)|(with_reducible refine cd_ ?_)));(case side2 => exact (rr_ HO_8.out).2.1);rintro e w' ⟨rfl,⟨nd,rfl⟩⟩;refine ⟨_,rfl,?_⟩))
                      go_roundg k3
                      case measure => have:=HJ3.out;have:=HK2.out;have:=HK3.out;omega
                      case rel => exact ⟨(x10_3),(wrap64 (x78_3 + 1)),qf_,H',⟨by have:=HJ3.out;have:=HK2.out;have:=HK3.out;omega⟩,⟨qr_ HO_8⟩,⟨qr_ HO_10⟩,⟨qr_ HO_76⟩,⟨qk_ BK382⟩,⟨u1_ HB GE382⟩⟩
                     ·replace c50:=Bool.eq_false_iff.mpr c50
                      subst c50
                      have H1 : (if x10_3.length < 17592186044416 then (impl_TreeWay.l1 k3 t393 (x10_3 ++ [rd t397 x78_3]) t397 (t397.length : Int) (wrap64 (x78_3 + 1))) else (none)) = some r:=by rw [if_neg (show ¬ (false = true) by decide)] at H;exact H
                      clear H
                      have H:=H1
                      clear H1
                      by_cases c51 : x10_3.length < 17592186044416
                      ·rw [if_pos c51] at H
                       have LMc51:=mk_ c51
                       clear c51
                       obtain ⟨y407,hy407⟩ : ∃ y_ : List Int,y_ = (x10_3 ++ [rd t397 x78_3]):=⟨_,rfl⟩
                       replace H : (impl_TreeWay.l1 k3 t393 y407 t397 (t397.length : Int) (wrap64 (x78_3 + 1))) = some r:=by first|(rw [hy407];with_reducible exact H)|(have H2_:=(Option.bind_some _ _).symm.trans H;rw [hy407];with_reducible exact H2_)|(have H2_:=(Option.bind_some _ _).symm.trans H;with_reducible exact H2_)|with_reducible exact H|(rw [hy407];exact H)|exact H
                       have Ny407:=mk_ hy407
                       clear hy407
                       have H':=mk_ H
                       clear H
                       have p405 : 0 ≤ (x78_3 : Int):=od_ qa_
                       have q405 : x78_3 < (t397.length : Int):=od_ qa_
                       obtain ⟨ad405,e405,hx405_0⟩:=Kd.at_int (rr_ HO_76.out).2.2 x78_3 p405 q405
                       cases e405
                       replace p405:=eq_true p405
                       replace q405:=eq_true q405
                       go_wp2_with (first|((with_reducible refine gate_callee (f:=67) rfl ?_);refine goesL_ (some 84) rfl rfl Try.func67 (by kernel_rfl) rfl #[.slice Ao35 t393.length co35,.int .i64 (rd t397 x78_3)] rfl qm_ ?_;(with_reducible refine (slices_Contains_int_int.calls k3 _ _ t393 (rd t397 x78_3) false _ ?side1 ?side2 A49.out).mono ?_);(case side1 => repeat (first|exact (rr_ HO_8.out).2.2|(with_reducible refine ca_ ?_ _)|(with_reducible refine cn_ ?_ _)|(with_reducible refine cd_ ?_)));(case side2 => exact (rr_ HO_8.out).2.1);rintro e w' ⟨rfl,⟨nd,rfl⟩⟩;refine ⟨_,rfl,?_⟩)|((with_reducible refine gate_builtin (b:=.append) (xs:=#[.tmp 86,.tmp 88]) rfl ?_);at_builtin;refine Kd.R_append (Kd.int .i64) (w0:=w) w.heap.size rfl (.tmp 86) (.tmp 88) 23 3 (.int .i64 0) 8 rfl Try.underlying23 info3 rfl (by decide) (by omega) u10 x10_3 (rd t397 x78_3) [.int .i64 (rd t397 x78_3)] (fun k_ => some k_ ≠ (.slice Ao35 t393.length co35 : Value).ownBlock ∧ some k_ ≠ (.slice (some ad405) t397.length co45 : Value).ownBlock) (fun _ => False) rfl rfl ?aP (fun _ hk => hk.elim) ?aF ?aO ?aB ?aS ?aL ?_;(case aP => exact rfl);(case aB => exact (qc_ HB GE382));(case aF => exact (fun k_ hk => ⟨Kd.fresh' (Kd.R_lt (qr_ HO_8)) k_ hk,Kd.fresh' (Kd.R_lt (qr_ HO_76)) k_ hk⟩));(case aO => exact (qr_ HO_10));(case aS => exact (bz_ (qc_ HB GE382)));(case aL => have:=LMc51.out;omega);intro v408 w52 ho hb hg hat;rw [← Ny407.out] at ho;have n0_:=mk_ (Kd.R_after (ok:=(fun k_ => some k_ ≠ (.slice (some ad405) t397.length co45 : Value).ownBlock)) (by (with_reducible repeat (first|apply ra_|apply rn_|apply rd_));exact rm_ HO_8.out (fun _ hk => ⟨hk.2,hk.1⟩)) hg hat);have n1_:=mk_ (Kd.R_after (ok:=(fun k_ => some k_ ≠ (.slice Ao35 t393.length co35 : Value).ownBlock)) (qr_ HO_76) hg hat);have n2_:=mk_ (blk_grown (g:=gb382) (o:=.cells #[.int .i64 a0_0,.slice A0_1 l0_1.length c0_1,.slice (some ad388) l0_2.length c0_2,.slice A0_3 l0_3.length c0_3] 30 (0,0)) (qk_ BK382) hg (Kd.R_ne HO_10.out BK382.out (by decide)));have n3_:=mk_ (hb);have n4_:=mk_ (ho);clear HO_8;clear HO_76;clear BK382;clear HB;clear HO_10;have HO_8:=n0_;have HO_76:=n1_;have BK382:=n2_;have HB:=n3_;have HO409:=n4_;clear n0_ n1_ n2_ n3_ n4_;clear ho hb hg hat))
                       go_roundg k3
                       case measure => have:=HJ3.out;have:=HK2.out;have:=HK3.out;omega
                       case rel => exact ⟨(y407),(wrap64 (x78_3 + 1)),qf_,H',⟨by have:=HJ3.out;have:=HK2.out;have:=HK3.out;omega⟩,⟨by (with_reducible repeat (first|apply ra_|apply rn_|apply rd_));exact rm_ HO_8.out (fun _ hk => ⟨hk.2,hk.1⟩)⟩,⟨qr_ HO409⟩,⟨qr_ HO_76⟩,⟨qk_ BK382⟩,⟨u1_ HB GE382⟩⟩
                      ·rw [if_neg c51] at H
                       exact absurd H (by simp)
                    ·rw [if_neg c48] at H
                     exact absurd H (by simp)
                   ·rw [if_neg c47] at H
                    exact absurd H (by simp)
                  ·rw [if_neg c46] at H
                   have c46b0 : decide (x78_3 < (t397.length : Int)) = false:=decide_eq_false c46
                   clear c46
                   replace H:=Option.bind_eq_some_iff.mp H
                   obtain ⟨t410,A530,H⟩:=H
                   replace H : (some t410) = some r:=H
                   have A53:=mk_ A530
                   clear A530
                   obtain rfl:=Option.some.inj H
                   obtain ⟨Ao54,co54,eo54⟩:=Kd.R_slice HO_10.out
                   subst eo54
                   go_wp2_with (first|((with_reducible refine gate_callee (f:=64) rfl ?_);refine goesL_ (some 92) rfl rfl Try.func64 (by kernel_rfl) rfl #[.slice Ao54 x10_3.length co54] rfl qm_ ?_;(with_reducible refine (slices_Sort_int_int.calls k3 (fun k_ => some k_ = (.slice Ao54 x10_3.length co54 : Value).ownBlock) (.slice Ao54 x10_3.length co54) x10_3 t410 w _ ?side1 ?side2 A53.out).mono ?_);(case side1 => exact u1_ HB GE382);(case side2 => exact Kd.R_tight rfl HO_10.out);rintro e w55 ⟨rfl,hy0,hb,hkp⟩;refine ⟨_,rfl,?_⟩;have n0_:=mk_ (rm_ (ok':=fun k_ => some k_ ≠ (.slice Ao54 x10_3.length co54 : Value).ownBlock ∧ some k_ ≠ (.slice Ao45 t397.length co45 : Value).ownBlock) (Kd.R_keptB (HO_8.out) hkp (fun k_ hk_ hs_ => (hk_.1) hs_)) (fun k_ hk_ => ⟨hk_.1.1,hk_.1.2⟩));have n1_:=mk_ (Kd.R_reok rfl hy0 (fun k_ e_ => HO_10.out.1 k_ e_));have n2_:=mk_ (rm_ (ok':=fun k_ => some k_ ≠ (.slice Ao35 t393.length co35 : Value).ownBlock ∧ some k_ ≠ (.slice Ao54 x10_3.length co54 : Value).ownBlock) (Kd.R_keptB (HO_76.out) hkp (fun k_ hk_ hs_ => (hk_.2) hs_)) (fun k_ hk_ => ⟨hk_.1.1,hk_.1.2⟩));have n3_:=mk_ (blk_kept (qk_ BK382) hkp (fun hs_ => (fun e_ => (Kd.R_ne HO_10.out BK382.out (by decide)) e_) hs_));have n4_:=mk_ (hb);clear HO_8;clear HO_10;clear HO_76;clear BK382;clear HB;have HO_8:=n0_;have HO_10:=n1_;have HO_76:=n2_;have BK382:=n3_;have HB:=n4_;clear n0_ n1_ n2_ n3_ n4_;(try clear hb);(try clear hkp);(try clear hy0)))
                   go_ret
                   exact ⟨_,qe_,by (with_reducible repeat (first|apply ra_|apply rn_|apply rd_));exact rm_ HO_10.out (fun _ hk => trivial),u1_ HB GE382⟩
            ·rw [if_neg c25] at H
             have c25b0 : ((rd t385 (rd l0_2 a1)) == (rd t385 (rd l0_2 a2))) = false:=beq_eq_false_iff_ne.mpr c25
             have c25b1 : ((rd t385 (rd l0_2 a1)) != (rd t385 (rd l0_2 a2))) = true:=bne_iff_ne.mpr c25
             obtain rfl:=Option.some.inj H
             have hcz56_0 : wc.cell? ⟨gb382,0,none⟩ = some (.int .i64 a0_0):=(bc_ BK382.out 0).trans rfl
             have hcz56_1 : wc.cell? ⟨gb382,1,none⟩ = some (.slice A0_1 l0_1.length c0_1):=(bc_ BK382.out 1).trans rfl
             have hcz56_2 : wc.cell? ⟨gb382,2,none⟩ = some (.slice A0_2 l0_2.length c0_2):=(bc_ BK382.out 2).trans rfl
             have hcz56_3 : wc.cell? ⟨gb382,3,none⟩ = some (.slice A0_3 l0_3.length c0_3):=(bc_ BK382.out 3).trans rfl
             have hfz56_0:=bf_ BK382.out 0
             have hfz56_1:=bf_ BK382.out 1
             have hfz56_2:=bf_ BK382.out 2
             have hfz56_3:=bf_ BK382.out 3
             try go_wp2_with (first|((with_reducible refine gate_callee (f:=55) rfl ?_);refine goesL_ (some 29) rfl rfl Try.func55 (by kernel_rfl) rfl #[.int .i64 a0_0,.slice A0_1 l0_1.length c0_1] rfl qm_ ?_;(with_reducible refine (impl_rootsOf.calls a0_0 _ _ l0_1 t385 _ ?side1 ?side2 A16.out).mono ?_);(case side1 => exact qn_ HR0_1 HB);(case side2 => exact HC0_1.out);rintro e w57 ⟨v386,rfl,ho0,hb⟩;refine ⟨_,rfl,?_⟩;have n0_:=mk_ (Kd.R_lower ho0 (bz_ (qc_ HB GE382)));have n1_:=mk_ (blk_below (g:=gb382) (o:=.cells #[.int .i64 a0_0,.slice A0_1 l0_1.length c0_1,.slice A0_2 l0_2.length c0_2,.slice A0_3 l0_3.length c0_3] 30 (0,0)) (qk_ BK382) hb);have n2_:=mk_ (st_ (qc_ HB GE382) hb);clear BK382;clear HB;have HO387:=n0_;have BK382:=n1_;have HB:=n2_;clear n0_ n1_ n2_;(try clear hb);(try clear hb2);(try clear hk);(try clear hi);(try clear ho0)))
             have n0_:=mk_ (rd_ HO387.out)
             have n1_:=mk_ (kd_ BK382.out)
             have n2_:=mk_ (bd_ HB.out)
             clear HO387
             clear BK382
             clear HB
             have HO387:=n0_
             have BK382:=n1_
             have HB:=n2_
             clear n0_ n1_ n2_
             have p388 : 0 ≤ (a1 : Int):=od_ qa_
             have q388 : a1 < (l0_2.length : Int):=od_ qa_
             obtain ⟨ad388,e388,hx388_0⟩:=Kd.at_int HR0_2.out a1 p388 q388
             have hw388_0:=hx388_0
             cases e388
             replace hx388_0:=(HB.out.cell (wl_ w _ hx388_0)).trans hx388_0
             replace p388:=eq_true p388
             replace q388:=eq_true q388
             obtain ⟨Ao59,co59,eo59⟩:=Kd.R_slice HO387.out
             (first|subst eo59|(injection eo59 with f1_ f2_ f3_;have f4_:=f1_.symm;have f5_:=f3_.symm;clear f1_ f2_ f3_;subst f4_;subst f5_))
             have p389 : 0 ≤ ((rd l0_2 a1) : Int):=od_ qa_
             have q389 : (rd l0_2 a1) < (t385.length : Int):=od_ qa_
             obtain ⟨ad389,e389,hx389_0⟩:=Kd.at_int (rr_ HO387.out).2.2 (rd l0_2 a1) p389 q389
             cases e389
             replace p389:=eq_true p389
             replace q389:=eq_true q389
             have p390 : 0 ≤ (a2 : Int):=od_ qa_
             have q390 : a2 < (l0_2.length : Int):=od_ qa_
             obtain ⟨ad390,e390,hx390_0⟩:=Kd.at_int HR0_2.out a2 p390 q390
             have hw390_0:=hx390_0
             obtain rfl : ad388 = ad390:=(by injection e390)
             replace hx390_0:=(HB.out.cell (wl_ w _ hx390_0)).trans hx390_0
             replace p390:=eq_true p390
             replace q390:=eq_true q390
             have p391 : 0 ≤ ((rd l0_2 a2) : Int):=od_ qa_
             have q391 : (rd l0_2 a2) < (t385.length : Int):=od_ qa_
             obtain ⟨ad391,e391,hx391_0⟩:=Kd.at_int (rr_ HO387.out).2.2 (rd l0_2 a2) p391 q391
             obtain rfl : ad389 = ad391:=(by injection e391)
             replace p391:=eq_true p391
             replace q391:=eq_true q391
             refine start_ (n:=17) (S:=fun w' => w'.cell? ⟨gb382,0,none⟩ = some (.int .i64 a0_0) ∧ w'.cell? ⟨gb382,1,none⟩ = some (.slice A0_1 l0_1.length c0_1) ∧ w'.cell? ⟨gb382,2,none⟩ = some (.slice (some ad388) l0_2.length c0_2) ∧ w'.cell? ⟨gb382,3,none⟩ = some (.slice A0_3 l0_3.length c0_3) ∧ w'.cell? (ad388.add (a1).toNat) = some (.int .i64 (rd l0_2 a1)) ∧ w'.cell? (ad389.add ((rd l0_2 a1)).toNat) = some (.int .i64 (rd t385 (rd l0_2 a1))) ∧ w'.cell? (ad388.add (a2).toNat) = some (.int .i64 (rd l0_2 a2)) ∧ w'.cell? (ad389.add ((rd l0_2 a2)).toNat) = some (.int .i64 (rd t385 (rd l0_2 a2)))) (ds:=[]) #[false,false,false,false,false,false,false,false,false,false,false,false,false,false,false,false,false] (by kernel_rfl) rfl rfl ⟨(bc_ BK382.out 0).trans rfl,(bc_ BK382.out 1).trans rfl,(bc_ BK382.out 2).trans rfl,(bc_ BK382.out 3).trans rfl,((HB.out.cell (wl_ w _ hw388_0)).trans hw388_0),hx389_0,((HB.out.cell (wl_ w _ hw390_0)).trans hw390_0),hx391_0⟩ (fun hHeld => ?_);refine with_tabW impl_TreeWay.tab4 impl_TreeWay.bits4 (fun HT_ HW_ => ?_)
             generalize w57.drew = w58 at HO387 BK382 HB hx388_0 hx389_0 hx390_0 hx391_0 hHeld ⊢
             refine pure_ (i:=0) (N:=some 30) (v:=?_) (a':=?_) #[true,false,false,false,false,false,false,false,false,false,false,false,false,false,false,false,false] rfl rfl (any_of HT_.out (by kernel_rfl)) (fun _ _ _ h => h) (Or.inl ⟨by rfl,?_⟩) ?_ ?_
             rotate_left
             ·intro w'
              go_simp
              with_reducible rfl
             rotate_left
             ·simp only [Act.put,sx_,sy_,sz_,i64_w,i32_w]
              rfl
             refine pure_ (i:=1) (N:=some 31) (v:=?_) (a':=?_) #[true,true,false,false,false,false,false,false,false,false,false,false,false,false,false,false,false] rfl rfl (any_of HT_.out (by kernel_rfl)) (fun _ _ _ h => h) (Or.inl ⟨by rfl,?_⟩) ?_ ?_
             rotate_left
             ·intro w'
              go_simp
              with_reducible rfl
             rotate_left
             ·simp only [Act.put,sx_,sy_,sz_,i64_w,i32_w]
              rfl
             refine pure_ (i:=3) (N:=some 33) (v:=?_) (a':=?_) #[true,true,false,true,false,false,false,false,false,false,false,false,false,false,false,false,false] rfl rfl (any_of HT_.out (by kernel_rfl)) (fun _ _ _ h => h) (Or.inl ⟨by rfl,?_⟩) ?_ ?_
             rotate_left
             ·intro w'
              go_simp
              with_reducible rfl
             rotate_left
             ·simp only [Act.put,sx_,sy_,sz_,i64_w,i32_w]
              rfl
             refine pure_ (i:=8) (N:=some 38) (v:=?_) (a':=?_) #[true,true,false,true,false,false,false,false,true,false,false,false,false,false,false,false,false] rfl rfl (any_of HT_.out (by kernel_rfl)) (fun _ _ _ h => h) (Or.inl ⟨by rfl,?_⟩) ?_ ?_
             rotate_left
             ·intro w'
              go_simp
              with_reducible rfl
             rotate_left
             ·simp only [Act.put,sx_,sy_,sz_,i64_w,i32_w]
              rfl
             refine pure_ (i:=9) (N:=some 39) (v:=?_) (a':=?_) #[true,true,false,true,false,false,false,false,true,true,false,false,false,false,false,false,false] rfl rfl (any_of HT_.out (by kernel_rfl)) (fun _ _ _ h => h) (Or.inl ⟨by rfl,?_⟩) ?_ ?_
             rotate_left
             ·intro w'
              go_simp
              with_reducible rfl
             rotate_left
             ·simp only [Act.put,sx_,sy_,sz_,i64_w,i32_w]
              rfl
             refine pure_ (i:=11) (N:=some 41) (v:=?_) (a':=?_) #[true,true,false,true,false,false,false,false,true,true,false,true,false,false,false,false,false] rfl rfl (any_of HT_.out (by kernel_rfl)) (fun _ _ _ h => h) (Or.inl ⟨by rfl,?_⟩) ?_ ?_
             rotate_left
             ·intro w'
              go_simp
              with_reducible rfl
             rotate_left
             ·simp only [Act.put,sx_,sy_,sz_,i64_w,i32_w]
              rfl
             refine take_ (i:=2) (N:=some 32) (v:=?_) (a':=?_) #[true,true,true,true,false,false,false,false,true,true,false,true,false,false,false,false,false] rfl rfl (take_ofW HT_.out HW_.out (by kernel_rfl)) (fun _ _ _ h => h) (Or.inl ⟨by rfl,?_⟩) hHeld ?_ ?_
             rotate_left
             ·rintro w' ⟨s0,s1,s2,s3,s4,s5,s6,s7⟩
              go_simp
              with_reducible rfl
             rotate_left
             ·simp only [Act.put,sx_,sy_,sz_,i64_w,i32_w]
              rfl
             refine pure_ (i:=4) (N:=some 34) (v:=?_) (a':=?_) #[true,true,true,true,true,false,false,false,true,true,false,true,false,false,false,false,false] rfl rfl (any_of HT_.out (by kernel_rfl)) (fun _ _ _ h => h) (Or.inl ⟨by rfl,?_⟩) ?_ ?_
             rotate_left
             ·intro w'
              go_simp
              with_reducible rfl
             rotate_left
             ·simp only [Act.put,sx_,sy_,sz_,i64_w,i32_w]
              rfl
             refine take_ (i:=5) (N:=some 35) (v:=?_) (a':=?_) #[true,true,true,true,true,true,false,false,true,true,false,true,false,false,false,false,false] rfl rfl (take_ofW HT_.out HW_.out (by kernel_rfl)) (fun _ _ _ h => h) (Or.inl ⟨by rfl,?_⟩) hHeld ?_ ?_
             rotate_left
             ·rintro w' ⟨s0,s1,s2,s3,s4,s5,s6,s7⟩
              go_simp
              with_reducible rfl
             rotate_left
             ·simp only [Act.put,sx_,sy_,sz_,i64_w,i32_w]
              rfl
             refine pure_ (i:=6) (N:=some 36) (v:=?_) (a':=?_) #[true,true,true,true,true,true,true,false,true,true,false,true,false,false,false,false,false] rfl rfl (any_of HT_.out (by kernel_rfl)) (fun _ _ _ h => h) (Or.inl ⟨by rfl,?_⟩) ?_ ?_
             rotate_left
             ·intro w'
              go_simp
              with_reducible rfl
             rotate_left
             ·simp only [Act.put,sx_,sy_,sz_,i64_w,i32_w]
              rfl
             refine take_ (i:=7) (N:=some 37) (v:=?_) (a':=?_) #[true,true,true,true,true,true,true,true,true,true,false,true,false,false,false,false,false] rfl rfl (take_ofW HT_.out HW_.out (by kernel_rfl)) (fun _ _ _ h => h) (Or.inl ⟨by rfl,?_⟩) hHeld ?_ ?_
             rotate_left
             ·rintro w' ⟨s0,s1,s2,s3,s4,s5,s6,s7⟩
              go_simp
              with_reducible rfl
             rotate_left
             ·simp only [Act.put,sx_,sy_,sz_,i64_w,i32_w]
              rfl
             refine take_ (i:=10) (N:=some 40) (v:=?_) (a':=?_) #[true,true,true,true,true,true,true,true,true,true,true,true,false,false,false,false,false] rfl rfl (take_ofW HT_.out HW_.out (by kernel_rfl)) (fun _ _ _ h => h) (Or.inl ⟨by rfl,?_⟩) hHeld ?_ ?_
             rotate_left
             ·rintro w' ⟨s0,s1,s2,s3,s4,s5,s6,s7⟩
              go_simp
              with_reducible rfl
             rotate_left
             ·simp only [Act.put,sx_,sy_,sz_,i64_w,i32_w]
              rfl
             refine pure_ (i:=12) (N:=some 42) (v:=?_) (a':=?_) #[true,true,true,true,true,true,true,true,true,true,true,true,true,false,false,false,false] rfl rfl (any_of HT_.out (by kernel_rfl)) (fun _ _ _ h => h) (Or.inl ⟨by rfl,?_⟩) ?_ ?_
             rotate_left
             ·intro w'
              go_simp
              with_reducible rfl
             rotate_left
             ·simp only [Act.put,sx_,sy_,sz_,i64_w,i32_w]
              rfl
             refine take_ (i:=13) (N:=some 43) (v:=?_) (a':=?_) #[true,true,true,true,true,true,true,true,true,true,true,true,true,true,false,false,false] rfl rfl (take_ofW HT_.out HW_.out (by kernel_rfl)) (fun _ _ _ h => h) (Or.inl ⟨by rfl,?_⟩) hHeld ?_ ?_
             rotate_left
             ·rintro w' ⟨s0,s1,s2,s3,s4,s5,s6,s7⟩
              go_simp
              with_reducible rfl
             rotate_left
             ·simp only [Act.put,sx_,sy_,sz_,i64_w,i32_w]
              rfl
             refine pure_ (i:=14) (N:=some 44) (v:=?_) (a':=?_) #[true,true,true,true,true,true,true,true,true,true,true,true,true,true,true,false,false] rfl rfl (any_of HT_.out (by kernel_rfl)) (fun _ _ _ h => h) (Or.inl ⟨by rfl,?_⟩) ?_ ?_
             rotate_left
             ·intro w'
              go_simp
              with_reducible rfl
             rotate_left
             ·simp only [Act.put,sx_,sy_,sz_,i64_w,i32_w]
              rfl
             refine take_ (i:=15) (N:=some 45) (v:=?_) (a':=?_) #[true,true,true,true,true,true,true,true,true,true,true,true,true,true,true,true,false] rfl rfl (take_ofW HT_.out HW_.out (by kernel_rfl)) (fun _ _ _ h => h) (Or.inl ⟨by rfl,?_⟩) hHeld ?_ ?_
             rotate_left
             ·rintro w' ⟨s0,s1,s2,s3,s4,s5,s6,s7⟩
              go_simp
              with_reducible rfl
             rotate_left
             ·simp only [Act.put,sx_,sy_,sz_,i64_w,i32_w]
              rfl
             refine pure_ (i:=16) (N:=some 46) (v:=?_) (a':=?_) #[true,true,true,true,true,true,true,true,true,true,true,true,true,true,true,true,true] rfl rfl (any_of HT_.out (by kernel_rfl)) (fun _ _ _ h => h) (Or.inl ⟨by rfl,?_⟩) ?_ ?_
             rotate_left
             ·intro w'
              go_simp
              with_reducible rfl
             rotate_left
             ·simp only [Act.put,sx_,sy_,sz_,i64_w,i32_w]
              rfl
             refine done_ (done_of HT_.out (by kernel_rfl)) ?_
             try go_wp2
             go_ret
             exact ⟨_,qe_,by first|exact Kd.R_nil _ _ _ _ _|exact Kd.N_nil _ _ _ _ _|exact Kd.V_nil _ _ _ _ _|exact Kd.Q_nil _ _ _ _ _|exact Kd.S_nil _ _ _ _ _,u1_ HB GE382⟩
           ·rw [if_neg c24] at H
            exact absurd H (by simp)
          ·rw [if_neg c23] at H
           exact absurd H (by simp)
         ·rw [if_neg c22] at H
          exact absurd H (by simp)
        ·rw [if_neg c21] at H
         exact absurd H (by simp)
       ·rw [if_neg c20] at H
        exact absurd H (by simp)
      ·rw [if_neg c19] at H
       exact absurd H (by simp)
     ·rw [if_neg c18] at H
      exact absurd H (by simp)
    ·rw [if_neg c17] at H
     exact absurd H (by simp)

/-! ### spec_l1In: function 40 -/
def spec_l1In.f (a0 : Int) (a1 : Int) (a2 : Int) : Option (Bool):=if a0 ≥ a1 then (some (decide (a0 ≤ a2))) else (some false)
set_option maxHeartbeats 8000000 in
set_option maxRecDepth 100000 in
theorem spec_l1In.calls (a0 : Int) (a1 : Int) (a2 : Int) (r : Bool) (w : World) (h : spec_l1In.f a0 a1 a2 = some r) :
  Calls Try.prog 40 #[.int .i64 a0,.int .i64 a1,.int .i64 a2] w fun e w' => e = .returned (.bool r) ∧ Drawn0 w w':=by
 have H : (if a0 ≥ a1 then (some (decide (a0 ≤ a2))) else (some false)) = some r:=h
 clear h
 by_cases c4 : a0 ≥ a1
 ·rw [if_pos c4] at H
  have c4b0 : decide (a1 ≤ a0) = true:=decide_eq_true c4
  clear c4
  obtain rfl:=Option.some.inj H
  go_enter Try.func40,Try.ntmps40
  go_wp2
  go_ret
  exact ⟨by first|rfl|(simp;done)|(simp [*];done),by repeat (first|exact Drawn0.refl _|apply Drawn0.step)⟩
 ·rw [if_neg c4] at H
  have c4b0 : decide (a1 ≤ a0) = false:=decide_eq_false c4
  clear c4
  obtain rfl:=Option.some.inj H
  go_enter Try.func40,Try.ntmps40
  go_wp2
  go_ret
  exact ⟨by first|rfl|(simp;done)|(simp [*];done),by repeat (first|exact Drawn0.refl _|apply Drawn0.step)⟩

/-! ### spec_l10Vlan: function 41 -/
def spec_l10Vlan.f (a0 : Int) : Option (Bool):=(spec_l1In.f a0 1 9).bind fun t411 => (some t411)
set_option maxHeartbeats 8000000 in
set_option maxRecDepth 100000 in
theorem spec_l10Vlan.calls (a0 : Int) (r : Bool) (w : World) (h : spec_l10Vlan.f a0 = some r) :
  Calls Try.prog 41 #[.int .i64 a0] w fun e w' => e = .returned (.bool r) ∧ Drawn0 w w':=by
 have H : ((spec_l1In.f a0 1 9).bind fun t411 => (some t411)) = some r:=h
 clear h
 replace H:=Option.bind_eq_some_iff.mp H
 obtain ⟨t411,A20,H⟩:=H
 replace H : (some t411) = some r:=H
 have A2:=mk_ A20
 clear A20
 obtain rfl:=Option.some.inj H
 go_enter Try.func41,Try.ntmps41
 go_wp2_with (first|((with_reducible refine gate_callee (f:=40) rfl ?_);refine goesL_ (some 4) rfl rfl Try.func40 (by kernel_rfl) rfl #[.int .i64 a0,.int .i64 1,.int .i64 9] rfl qm_ ?_;(with_reducible refine (spec_l1In.calls a0 1 9 t411 _ A2.out).mono ?_);rintro e w' ⟨rfl,⟨nd,rfl⟩⟩;refine ⟨_,rfl,?_⟩))
 go_ret
 exact ⟨by first|rfl|(simp;done)|(simp [*];done),by repeat (first|exact Drawn0.refl _|apply Drawn0.step)⟩

/-! ### spec_CablesValid: function 42 -/
mutual
def spec_CablesValid.j0 : Nat → Int → List (S51) → Bool → Option (Bool)
 | 0,_,_,_ => none
 | k + 1,x0,x1,x14 => if x14 = true then (some false) else (spec_CablesValid.l0 k x0 x1 0)
def spec_CablesValid.l0 : Nat → Int → List (S51) → Int → Option (Bool)
 | 0,_,_,_ => none
 | k + 1,x0,x1,x5 => if x5 < (x1.length : Int) then (if 0 ≤ x5 then ((spec_l1In.f ((rd_T51 x1 x5).f0) 0 (wrap64 (x0 - 1))).bind fun t415 => (if t415 = true then ((spec_l1In.f ((rd_T51 x1 x5).f1) 0 (wrap64 (x0 - 1))).bind fun t416 => (if t416 = true then (if ((rd_T51 x1 x5).f0) = ((rd_T51 x1 x5).f1) then (some false) else ((spec_l1In.f ((rd_T51 x1 x5).f2) 1 99).bind fun t417 => (if t417 = true then (spec_CablesValid.l0 k x0 x1 (wrap64 (x5 + 1))) else (some false)))) else (some false))) else (some false))) else (none)) else (some true)
end
def spec_CablesValid.f (k : Nat) (a0 : Int) (l1 : List (S51)) : Option (Bool):=(spec_l1In.f a0 1 8).bind fun t412 => (if t412 = true then (spec_CablesValid.j0 k a0 l1 (decide ((l1.length : Int) > 20))) else (spec_CablesValid.j0 k a0 l1 true))
theorem spec_CablesValid.mono_l : ∀ k,(∀ y0 y1 y2,LeO (spec_CablesValid.j0 k y0 y1 y2) (spec_CablesValid.j0 (k + 1) y0 y1 y2)) ∧ (∀ y0 y1 y2,LeO (spec_CablesValid.l0 k y0 y1 y2) (spec_CablesValid.l0 (k + 1) y0 y1 y2))
 | 0 => ⟨fun _ _ _ r h => by simp [spec_CablesValid.j0] at h,fun _ _ _ r h => by simp [spec_CablesValid.l0] at h⟩
 | k + 1 => by
  obtain ⟨ih0,ih1⟩:=spec_CablesValid.mono_l k
  refine ⟨?_,?_⟩
  ·intro y0 y1 y2
   unfold spec_CablesValid.j0
   repeat' first
   | (with_reducible exact ih0 _ _ _)
   | (with_reducible exact ih1 _ _ _)
   | (with_reducible exact LeO.refl _)
   | (with_reducible exact LeO.none _)
   | (with_reducible refine LeO.ite ?_ ?_)
   | (with_reducible refine LeO.bind ?_ (fun _ => ?_))
   | exact ih0 _ _ _
   | exact ih1 _ _ _
   | exact LeO.none _
   | refine LeO.ite ?_ ?_
   | refine LeO.bind ?_ (fun _ => ?_)
  ·intro y0 y1 y2
   unfold spec_CablesValid.l0
   repeat' first
   | (with_reducible exact ih0 _ _ _)
   | (with_reducible exact ih1 _ _ _)
   | (with_reducible exact LeO.refl _)
   | (with_reducible exact LeO.none _)
   | (with_reducible refine LeO.ite ?_ ?_)
   | (with_reducible refine LeO.bind ?_ (fun _ => ?_))
   | exact ih0 _ _ _
   | exact ih1 _ _ _
   | exact LeO.none _
   | refine LeO.ite ?_ ?_
   | refine LeO.bind ?_ (fun _ => ?_)
theorem spec_CablesValid.mono : ∀ a0 a1 k,LeO (spec_CablesValid.f k a0 a1) (spec_CablesValid.f (k + 1) a0 a1):=by
 intro a0 a1 k
 obtain ⟨ih0,ih1⟩:=spec_CablesValid.mono_l k
 unfold spec_CablesValid.f
 repeat' first
   | (with_reducible exact ih0 _ _ _)
   | (with_reducible exact ih1 _ _ _)
   | (with_reducible exact LeO.refl _)
   | (with_reducible exact LeO.none _)
   | (with_reducible refine LeO.ite ?_ ?_)
   | (with_reducible refine LeO.bind ?_ (fun _ => ?_))
   | exact ih0 _ _ _
   | exact ih1 _ _ _
   | exact LeO.none _
   | refine LeO.ite ?_ ?_
   | refine LeO.bind ?_ (fun _ => ?_)
set_option maxHeartbeats 8000000 in
set_option maxRecDepth 100000 in
theorem spec_CablesValid.calls (k : Nat) (a0 : Int) (A1 : Option Addr) (c1 : Nat) (l1 : List (S51)) (r : Bool) (w : World) (hr1 : Kd.C k51 w A1 l1.length l1) (hc1 : l1.length ≤ c1) (h : spec_CablesValid.f k a0 l1 = some r) :
  Calls Try.prog 42 #[.int .i64 a0,.slice A1 l1.length c1] w fun e w' => e = .returned (.bool r) ∧ Below w.heap.size w w':=by
 have hu51:=Try.underlying51
 have HR1:=mk_ hr1
 have HC1:=mk_ hc1
 clear hr1 hc1
 have HB:=mk_ (Below.refl w.heap.size w)
 have H : ((spec_l1In.f a0 1 8).bind fun t412 => (if t412 = true then (spec_CablesValid.j0 k a0 l1 (decide ((l1.length : Int) > 20))) else (spec_CablesValid.j0 k a0 l1 true))) = some r:=h
 clear h
 have HC3:=mk_ H
 clear H
 go_enter Try.func42,Try.ntmps42
 go_upto_region 1 with (fail)
 go_cut [14] (fun v14 wc => ∃ (kq : Nat) (x14_2 : Bool),v14 = .bool x14_2 ∧ Aside0 (spec_CablesValid.j0 kq a0 l1 x14_2 = some r) ∧ Aside0 (kq ≤ k) ∧ Aside0 (Below w.heap.size w wc))
 case first =>
  have H:=HC3.out
  clear HC3
  replace H:=Option.bind_eq_some_iff.mp H
  obtain ⟨t412,A40,H⟩:=H
  replace H : (if t412 = true then (spec_CablesValid.j0 k a0 l1 (decide ((l1.length : Int) > 20))) else (spec_CablesValid.j0 k a0 l1 true)) = some r:=H
  have A4:=mk_ A40
  clear A40
  by_cases c5 : t412 = true
  ·subst c5
   have H1 : (spec_CablesValid.j0 k a0 l1 (decide ((l1.length : Int) > 20))) = some r:=by rw [if_pos rfl] at H;exact H
   clear H
   have H:=H1
   clear H1
   have H':=mk_ H
   clear H
   go_wp2_with (first|((with_reducible refine gate_callee (f:=40) rfl ?_);refine goesL_ (some 8) rfl rfl Try.func40 (by kernel_rfl) rfl #[.int .i64 a0,.int .i64 1,.int .i64 8] rfl qm_ ?_;(with_reducible refine (spec_l1In.calls a0 1 8 true _ A4.out).mono ?_);rintro e w' ⟨rfl,⟨nd,rfl⟩⟩;refine ⟨_,rfl,?_⟩))
   go_meet
   case rel => exact ⟨_,(decide ((l1.length : Int) > 20)),qf_,H',⟨by first|omega|exact Nat.le_refl _⟩,⟨u0_ HB⟩⟩
  ·replace c5:=Bool.eq_false_iff.mpr c5
   subst c5
   have H1 : (spec_CablesValid.j0 k a0 l1 true) = some r:=by rw [if_neg (show ¬ (false = true) by decide)] at H;exact H
   clear H
   have H:=H1
   clear H1
   have H':=mk_ H
   clear H
   go_wp2_with (first|((with_reducible refine gate_callee (f:=40) rfl ?_);refine goesL_ (some 8) rfl rfl Try.func40 (by kernel_rfl) rfl #[.int .i64 a0,.int .i64 1,.int .i64 8] rfl qm_ ?_;(with_reducible refine (spec_l1In.calls a0 1 8 false _ A4.out).mono ?_);rintro e w' ⟨rfl,⟨nd,rfl⟩⟩;refine ⟨_,rfl,?_⟩))
   go_meet
   case rel => exact ⟨_,(true),qf_,H',⟨by first|omega|exact Nat.le_refl _⟩,⟨u0_ HB⟩⟩
 case rest =>
  clear HC3
  try clear c1
  try clear p2
  try clear c4
  try clear c5
  obtain ⟨kq,x14_2,rfl,HA,HJ2,HB⟩:=hcut
  cases kq with
  | zero => exact absurd HA.out (by simp [spec_CablesValid.j0])
  | succ kj2 =>
   have H:=HA.out
   clear HA
   simp only [spec_CablesValid.j0] at H
   by_cases c6 : x14_2 = true
   ·subst c6
    have H1 : (some false) = some r:=by rw [if_pos rfl] at H;exact H
    clear H
    have H:=H1
    clear H1
    obtain rfl:=Option.some.inj H
    go_wp2
    go_ret
    exact ⟨qe_,u0_ HB⟩
   ·replace c6:=Bool.eq_false_iff.mpr c6
    subst c6
    have H1 : (spec_CablesValid.l0 kj2 a0 l1 0) = some r:=by rw [if_neg (show ¬ (false = true) by decide)] at H;exact H
    clear H
    have H:=H1
    clear H1
    have H':=mk_ H
    clear H
    go_wp2
    go_loopg [5] kj2 (fun kq v5 w' => ∃ (x5_2 : Int),v5 = .int .i64 x5_2 ∧ Aside0 (spec_CablesValid.l0 kq a0 l1 x5_2 = some r) ∧ Aside0 (kq ≤ kj2) ∧ Aside0 (Below w.heap.size w w'))
    case atStart => exact ⟨(0),qf_,H',⟨Nat.le_refl _⟩,⟨u0_ HB⟩⟩
    case round =>
     clear H'
     try clear c1
     try clear p2
     try clear c4
     try clear c5
     try clear c6
     try clear p2
     obtain ⟨x5_2,rfl,HA,HK2,HB⟩:=hrel
     cases gk with
     | zero => exact absurd HA.out (by simp [spec_CablesValid.l0])
     | succ k2 =>
      have H:=HA.out
      clear HA
      simp only [spec_CablesValid.l0] at H
      by_cases c7 : x5_2 < (l1.length : Int)
      ·rw [if_pos c7] at H
       have c7b0 : decide (x5_2 < (l1.length : Int)) = true:=decide_eq_true c7
       clear c7
       by_cases c8 : 0 ≤ x5_2
       ·rw [if_pos c8] at H
        have c8b0 : decide (0 ≤ x5_2) = true:=decide_eq_true c8
        clear c8
        replace H:=Option.bind_eq_some_iff.mp H
        obtain ⟨t415,A90,H⟩:=H
        replace H : (if t415 = true then ((spec_l1In.f ((rd_T51 l1 x5_2).f1) 0 (wrap64 (a0 - 1))).bind fun t416 => (if t416 = true then (if ((rd_T51 l1 x5_2).f0) = ((rd_T51 l1 x5_2).f1) then (some false) else ((spec_l1In.f ((rd_T51 l1 x5_2).f2) 1 99).bind fun t417 => (if t417 = true then (spec_CablesValid.l0 k2 a0 l1 (wrap64 (x5_2 + 1))) else (some false)))) else (some false))) else (some false)) = some r:=H
        have A9:=mk_ A90
        clear A90
        by_cases c10 : t415 = true
        ·subst c10
         have H1 : ((spec_l1In.f ((rd_T51 l1 x5_2).f1) 0 (wrap64 (a0 - 1))).bind fun t416 => (if t416 = true then (if ((rd_T51 l1 x5_2).f0) = ((rd_T51 l1 x5_2).f1) then (some false) else ((spec_l1In.f ((rd_T51 l1 x5_2).f2) 1 99).bind fun t417 => (if t417 = true then (spec_CablesValid.l0 k2 a0 l1 (wrap64 (x5_2 + 1))) else (some false)))) else (some false))) = some r:=by rw [if_pos rfl] at H;exact H
         clear H
         have H:=H1
         clear H1
         replace H:=Option.bind_eq_some_iff.mp H
         obtain ⟨t416,A110,H⟩:=H
         replace H : (if t416 = true then (if ((rd_T51 l1 x5_2).f0) = ((rd_T51 l1 x5_2).f1) then (some false) else ((spec_l1In.f ((rd_T51 l1 x5_2).f2) 1 99).bind fun t417 => (if t417 = true then (spec_CablesValid.l0 k2 a0 l1 (wrap64 (x5_2 + 1))) else (some false)))) else (some false)) = some r:=H
         have A11:=mk_ A110
         clear A110
         by_cases c12 : t416 = true
         ·subst c12
          have H1 : (if ((rd_T51 l1 x5_2).f0) = ((rd_T51 l1 x5_2).f1) then (some false) else ((spec_l1In.f ((rd_T51 l1 x5_2).f2) 1 99).bind fun t417 => (if t417 = true then (spec_CablesValid.l0 k2 a0 l1 (wrap64 (x5_2 + 1))) else (some false)))) = some r:=by rw [if_pos rfl] at H;exact H
          clear H
          have H:=H1
          clear H1
          by_cases c13 : ((rd_T51 l1 x5_2).f0) = ((rd_T51 l1 x5_2).f1)
          ·rw [if_pos c13] at H
           have c13b0 : (((rd_T51 l1 x5_2).f0) == ((rd_T51 l1 x5_2).f1)) = true:=beq_iff_eq.mpr c13
           have c13b1 : (((rd_T51 l1 x5_2).f0) != ((rd_T51 l1 x5_2).f1)) = false:=bne_eq_false_iff_eq.mpr c13
           clear c13
           obtain rfl:=Option.some.inj H
           have p413 : 0 ≤ (x5_2 : Int):=od_ qa_
           have q413 : x5_2 < (l1.length : Int):=od_ qa_
           obtain ⟨ad413,e413,hx413_0,hx413_1,hx413_2⟩:=at_T51 HR1.out x5_2 p413 q413
           cases e413
           replace hx413_0:=(HB.out.cell (wl_ w _ hx413_0)).trans hx413_0
           replace hx413_1:=(HB.out.cell (wl_ w _ hx413_1)).trans hx413_1
           replace hx413_2:=(HB.out.cell (wl_ w _ hx413_2)).trans hx413_2
           replace p413:=eq_true p413
           replace q413:=eq_true q413
           go_wp2_with (first|((with_reducible refine gate_dst (N:=6) rfl ?_);(try (refine gate_guard (by rfl) ?_;dsimp only));refine box_event ?hg (N:=6) ?hd (cs:=#[.int .i64 0,.int .i64 0,.int .i64 0]) (t:=51) ?hr ?_;(case hd => rfl);(case hg => rfl);(case hr => first|(go_simp;done)|(go_simp;rfl));intro gb414 hg w14 hbox hb;have n0_:=mk_ (st_ (qb_ HB) hb);have n1_:=mk_ (hbox);have n2_:=mk_ ((by rw [hg];exact (bz_ (qb_ HB)) : w.heap.size ≤ gb414));have n3_:=mk_ ((by rw [hg];exact (bz_ (qb_ HB)) : w.heap.size ≤ gb414));clear HB;have HB:=n0_;have BK414:=n1_;have GW414:=n2_;have GE414:=n3_;clear n0_ n1_ n2_ n3_;clear hb hbox hg;have hcz15_0 : w14.cell? ⟨gb414,0,none⟩ = some (.int .i64 0):=(bc_ BK414.out 0).trans rfl;have hcz15_1 : w14.cell? ⟨gb414,1,none⟩ = some (.int .i64 0):=(bc_ BK414.out 1).trans rfl;have hcz15_2 : w14.cell? ⟨gb414,2,none⟩ = some (.int .i64 0):=(bc_ BK414.out 2).trans rfl;have hfz15_0:=bf_ BK414.out 0;have hfz15_1:=bf_ BK414.out 1;have hfz15_2:=bf_ BK414.out 2)|((with_reducible refine gate_callee (f:=40) rfl ?_);refine goesL_ (some 29) rfl rfl Try.func40 (by kernel_rfl) rfl #[.int .i64 ((rd_T51 l1 x5_2).f0),.int .i64 0,.int .i64 (wrap64 (a0 - 1))] rfl qm_ ?_;(with_reducible refine (spec_l1In.calls ((rd_T51 l1 x5_2).f0) 0 (wrap64 (a0 - 1)) true _ A9.out).mono ?_);rintro e w' ⟨rfl,⟨nd,rfl⟩⟩;refine ⟨_,rfl,?_⟩)|(go_at_call 40;(with_reducible refine (spec_l1In.calls ((rd_T51 l1 x5_2).f1) 0 (wrap64 (a0 - 1)) true _ A11.out).mono ?_);rintro e w' ⟨rfl,⟨nd,rfl⟩⟩))
           go_ret
           exact ⟨qe_,u1_ HB GE414⟩
          ·rw [if_neg c13] at H
           have c13b0 : (((rd_T51 l1 x5_2).f0) == ((rd_T51 l1 x5_2).f1)) = false:=beq_eq_false_iff_ne.mpr c13
           have c13b1 : (((rd_T51 l1 x5_2).f0) != ((rd_T51 l1 x5_2).f1)) = true:=bne_iff_ne.mpr c13
           replace H:=Option.bind_eq_some_iff.mp H
           obtain ⟨t417,A160,H⟩:=H
           replace H : (if t417 = true then (spec_CablesValid.l0 k2 a0 l1 (wrap64 (x5_2 + 1))) else (some false)) = some r:=H
           have A16:=mk_ A160
           clear A160
           by_cases c17 : t417 = true
           ·subst c17
            have H1 : (spec_CablesValid.l0 k2 a0 l1 (wrap64 (x5_2 + 1))) = some r:=by rw [if_pos rfl] at H;exact H
            clear H
            have H:=H1
            clear H1
            have H':=mk_ H
            clear H
            have p413 : 0 ≤ (x5_2 : Int):=od_ qa_
            have q413 : x5_2 < (l1.length : Int):=od_ qa_
            obtain ⟨ad413,e413,hx413_0,hx413_1,hx413_2⟩:=at_T51 HR1.out x5_2 p413 q413
            cases e413
            replace hx413_0:=(HB.out.cell (wl_ w _ hx413_0)).trans hx413_0
            replace hx413_1:=(HB.out.cell (wl_ w _ hx413_1)).trans hx413_1
            replace hx413_2:=(HB.out.cell (wl_ w _ hx413_2)).trans hx413_2
            replace p413:=eq_true p413
            replace q413:=eq_true q413
            go_wp2_with (first|((with_reducible refine gate_dst (N:=6) rfl ?_);(try (refine gate_guard (by rfl) ?_;dsimp only));refine box_event ?hg (N:=6) ?hd (cs:=#[.int .i64 0,.int .i64 0,.int .i64 0]) (t:=51) ?hr ?_;(case hd => rfl);(case hg => rfl);(case hr => first|(go_simp;done)|(go_simp;rfl));intro gb414 hg w18 hbox hb;have n0_:=mk_ (st_ (qb_ HB) hb);have n1_:=mk_ (hbox);have n2_:=mk_ ((by rw [hg];exact (bz_ (qb_ HB)) : w.heap.size ≤ gb414));have n3_:=mk_ ((by rw [hg];exact (bz_ (qb_ HB)) : w.heap.size ≤ gb414));clear HB;have HB:=n0_;have BK414:=n1_;have GW414:=n2_;have GE414:=n3_;clear n0_ n1_ n2_ n3_;clear hb hbox hg;have hcz19_0 : w18.cell? ⟨gb414,0,none⟩ = some (.int .i64 0):=(bc_ BK414.out 0).trans rfl;have hcz19_1 : w18.cell? ⟨gb414,1,none⟩ = some (.int .i64 0):=(bc_ BK414.out 1).trans rfl;have hcz19_2 : w18.cell? ⟨gb414,2,none⟩ = some (.int .i64 0):=(bc_ BK414.out 2).trans rfl;have hfz19_0:=bf_ BK414.out 0;have hfz19_1:=bf_ BK414.out 1;have hfz19_2:=bf_ BK414.out 2)|((with_reducible refine gate_callee (f:=40) rfl ?_);refine goesL_ (some 29) rfl rfl Try.func40 (by kernel_rfl) rfl #[.int .i64 ((rd_T51 l1 x5_2).f0),.int .i64 0,.int .i64 (wrap64 (a0 - 1))] rfl qm_ ?_;(with_reducible refine (spec_l1In.calls ((rd_T51 l1 x5_2).f0) 0 (wrap64 (a0 - 1)) true _ A9.out).mono ?_);rintro e w' ⟨rfl,⟨nd,rfl⟩⟩;refine ⟨_,rfl,?_⟩)|(go_at_call 40;(with_reducible refine (spec_l1In.calls ((rd_T51 l1 x5_2).f1) 0 (wrap64 (a0 - 1)) true _ A11.out).mono ?_);rintro e w' ⟨rfl,⟨nd,rfl⟩⟩)|(go_at_call 40;(with_reducible refine (spec_l1In.calls ((rd_T51 l1 x5_2).f2) 1 99 true _ A16.out).mono ?_);rintro e w' ⟨rfl,⟨nd,rfl⟩⟩))
            go_roundg k2
            case measure => have:=HJ2.out;have:=HK2.out;omega
            case rel => exact ⟨(wrap64 (x5_2 + 1)),qf_,H',⟨by have:=HJ2.out;have:=HK2.out;omega⟩,⟨u1_ HB GE414⟩⟩
           ·replace c17:=Bool.eq_false_iff.mpr c17
            subst c17
            have H1 : (some false) = some r:=by rw [if_neg (show ¬ (false = true) by decide)] at H;exact H
            clear H
            have H:=H1
            clear H1
            obtain rfl:=Option.some.inj H
            have p413 : 0 ≤ (x5_2 : Int):=od_ qa_
            have q413 : x5_2 < (l1.length : Int):=od_ qa_
            obtain ⟨ad413,e413,hx413_0,hx413_1,hx413_2⟩:=at_T51 HR1.out x5_2 p413 q413
            cases e413
            replace hx413_0:=(HB.out.cell (wl_ w _ hx413_0)).trans hx413_0
            replace hx413_1:=(HB.out.cell (wl_ w _ hx413_1)).trans hx413_1
            replace hx413_2:=(HB.out.cell (wl_ w _ hx413_2)).trans hx413_2
            replace p413:=eq_true p413
            replace q413:=eq_true q413
            go_wp2_with (first|((with_reducible refine gate_dst (N:=6) rfl ?_);(try (refine gate_guard (by rfl) ?_;dsimp only));refine box_event ?hg (N:=6) ?hd (cs:=#[.int .i64 0,.int .i64 0,.int .i64 0]) (t:=51) ?hr ?_;(case hd => rfl);(case hg => rfl);(case hr => first|(go_simp;done)|(go_simp;rfl));intro gb414 hg w20 hbox hb;have n0_:=mk_ (st_ (qb_ HB) hb);have n1_:=mk_ (hbox);have n2_:=mk_ ((by rw [hg];exact (bz_ (qb_ HB)) : w.heap.size ≤ gb414));have n3_:=mk_ ((by rw [hg];exact (bz_ (qb_ HB)) : w.heap.size ≤ gb414));clear HB;have HB:=n0_;have BK414:=n1_;have GW414:=n2_;have GE414:=n3_;clear n0_ n1_ n2_ n3_;clear hb hbox hg;have hcz21_0 : w20.cell? ⟨gb414,0,none⟩ = some (.int .i64 0):=(bc_ BK414.out 0).trans rfl;have hcz21_1 : w20.cell? ⟨gb414,1,none⟩ = some (.int .i64 0):=(bc_ BK414.out 1).trans rfl;have hcz21_2 : w20.cell? ⟨gb414,2,none⟩ = some (.int .i64 0):=(bc_ BK414.out 2).trans rfl;have hfz21_0:=bf_ BK414.out 0;have hfz21_1:=bf_ BK414.out 1;have hfz21_2:=bf_ BK414.out 2)|((with_reducible refine gate_callee (f:=40) rfl ?_);refine goesL_ (some 29) rfl rfl Try.func40 (by kernel_rfl) rfl #[.int .i64 ((rd_T51 l1 x5_2).f0),.int .i64 0,.int .i64 (wrap64 (a0 - 1))] rfl qm_ ?_;(with_reducible refine (spec_l1In.calls ((rd_T51 l1 x5_2).f0) 0 (wrap64 (a0 - 1)) true _ A9.out).mono ?_);rintro e w' ⟨rfl,⟨nd,rfl⟩⟩;refine ⟨_,rfl,?_⟩)|(go_at_call 40;(with_reducible refine (spec_l1In.calls ((rd_T51 l1 x5_2).f1) 0 (wrap64 (a0 - 1)) true _ A11.out).mono ?_);rintro e w' ⟨rfl,⟨nd,rfl⟩⟩)|(go_at_call 40;(with_reducible refine (spec_l1In.calls ((rd_T51 l1 x5_2).f2) 1 99 false _ A16.out).mono ?_);rintro e w' ⟨rfl,⟨nd,rfl⟩⟩))
            go_ret
            exact ⟨qe_,u1_ HB GE414⟩
         ·replace c12:=Bool.eq_false_iff.mpr c12
          subst c12
          have H1 : (some false) = some r:=by rw [if_neg (show ¬ (false = true) by decide)] at H;exact H
          clear H
          have H:=H1
          clear H1
          obtain rfl:=Option.some.inj H
          have p413 : 0 ≤ (x5_2 : Int):=od_ qa_
          have q413 : x5_2 < (l1.length : Int):=od_ qa_
          obtain ⟨ad413,e413,hx413_0,hx413_1,hx413_2⟩:=at_T51 HR1.out x5_2 p413 q413
          cases e413
          replace hx413_0:=(HB.out.cell (wl_ w _ hx413_0)).trans hx413_0
          replace hx413_1:=(HB.out.cell (wl_ w _ hx413_1)).trans hx413_1
          replace hx413_2:=(HB.out.cell (wl_ w _ hx413_2)).trans hx413_2
          replace p413:=eq_true p413
          replace q413:=eq_true q413
          go_wp2_with (first|((with_reducible refine gate_dst (N:=6) rfl ?_);(try (refine gate_guard (by rfl) ?_;dsimp only));refine box_event ?hg (N:=6) ?hd (cs:=#[.int .i64 0,.int .i64 0,.int .i64 0]) (t:=51) ?hr ?_;(case hd => rfl);(case hg => rfl);(case hr => first|(go_simp;done)|(go_simp;rfl));intro gb414 hg w22 hbox hb;have n0_:=mk_ (st_ (qb_ HB) hb);have n1_:=mk_ (hbox);have n2_:=mk_ ((by rw [hg];exact (bz_ (qb_ HB)) : w.heap.size ≤ gb414));have n3_:=mk_ ((by rw [hg];exact (bz_ (qb_ HB)) : w.heap.size ≤ gb414));clear HB;have HB:=n0_;have BK414:=n1_;have GW414:=n2_;have GE414:=n3_;clear n0_ n1_ n2_ n3_;clear hb hbox hg;have hcz23_0 : w22.cell? ⟨gb414,0,none⟩ = some (.int .i64 0):=(bc_ BK414.out 0).trans rfl;have hcz23_1 : w22.cell? ⟨gb414,1,none⟩ = some (.int .i64 0):=(bc_ BK414.out 1).trans rfl;have hcz23_2 : w22.cell? ⟨gb414,2,none⟩ = some (.int .i64 0):=(bc_ BK414.out 2).trans rfl;have hfz23_0:=bf_ BK414.out 0;have hfz23_1:=bf_ BK414.out 1;have hfz23_2:=bf_ BK414.out 2)|((with_reducible refine gate_callee (f:=40) rfl ?_);refine goesL_ (some 29) rfl rfl Try.func40 (by kernel_rfl) rfl #[.int .i64 ((rd_T51 l1 x5_2).f0),.int .i64 0,.int .i64 (wrap64 (a0 - 1))] rfl qm_ ?_;(with_reducible refine (spec_l1In.calls ((rd_T51 l1 x5_2).f0) 0 (wrap64 (a0 - 1)) true _ A9.out).mono ?_);rintro e w' ⟨rfl,⟨nd,rfl⟩⟩;refine ⟨_,rfl,?_⟩)|(go_at_call 40;(with_reducible refine (spec_l1In.calls ((rd_T51 l1 x5_2).f1) 0 (wrap64 (a0 - 1)) false _ A11.out).mono ?_);rintro e w' ⟨rfl,⟨nd,rfl⟩⟩))
          go_ret
          exact ⟨qe_,u1_ HB GE414⟩
        ·replace c10:=Bool.eq_false_iff.mpr c10
         subst c10
         have H1 : (some false) = some r:=by rw [if_neg (show ¬ (false = true) by decide)] at H;exact H
         clear H
         have H:=H1
         clear H1
         obtain rfl:=Option.some.inj H
         have p413 : 0 ≤ (x5_2 : Int):=od_ qa_
         have q413 : x5_2 < (l1.length : Int):=od_ qa_
         obtain ⟨ad413,e413,hx413_0,hx413_1,hx413_2⟩:=at_T51 HR1.out x5_2 p413 q413
         cases e413
         replace hx413_0:=(HB.out.cell (wl_ w _ hx413_0)).trans hx413_0
         replace hx413_1:=(HB.out.cell (wl_ w _ hx413_1)).trans hx413_1
         replace hx413_2:=(HB.out.cell (wl_ w _ hx413_2)).trans hx413_2
         replace p413:=eq_true p413
         replace q413:=eq_true q413
         go_wp2_with (first|((with_reducible refine gate_dst (N:=6) rfl ?_);(try (refine gate_guard (by rfl) ?_;dsimp only));refine box_event ?hg (N:=6) ?hd (cs:=#[.int .i64 0,.int .i64 0,.int .i64 0]) (t:=51) ?hr ?_;(case hd => rfl);(case hg => rfl);(case hr => first|(go_simp;done)|(go_simp;rfl));intro gb414 hg w24 hbox hb;have n0_:=mk_ (st_ (qb_ HB) hb);have n1_:=mk_ (hbox);have n2_:=mk_ ((by rw [hg];exact (bz_ (qb_ HB)) : w.heap.size ≤ gb414));have n3_:=mk_ ((by rw [hg];exact (bz_ (qb_ HB)) : w.heap.size ≤ gb414));clear HB;have HB:=n0_;have BK414:=n1_;have GW414:=n2_;have GE414:=n3_;clear n0_ n1_ n2_ n3_;clear hb hbox hg;have hcz25_0 : w24.cell? ⟨gb414,0,none⟩ = some (.int .i64 0):=(bc_ BK414.out 0).trans rfl;have hcz25_1 : w24.cell? ⟨gb414,1,none⟩ = some (.int .i64 0):=(bc_ BK414.out 1).trans rfl;have hcz25_2 : w24.cell? ⟨gb414,2,none⟩ = some (.int .i64 0):=(bc_ BK414.out 2).trans rfl;have hfz25_0:=bf_ BK414.out 0;have hfz25_1:=bf_ BK414.out 1;have hfz25_2:=bf_ BK414.out 2)|((with_reducible refine gate_callee (f:=40) rfl ?_);refine goesL_ (some 29) rfl rfl Try.func40 (by kernel_rfl) rfl #[.int .i64 ((rd_T51 l1 x5_2).f0),.int .i64 0,.int .i64 (wrap64 (a0 - 1))] rfl qm_ ?_;(with_reducible refine (spec_l1In.calls ((rd_T51 l1 x5_2).f0) 0 (wrap64 (a0 - 1)) false _ A9.out).mono ?_);rintro e w' ⟨rfl,⟨nd,rfl⟩⟩;refine ⟨_,rfl,?_⟩))
         go_ret
         exact ⟨qe_,u1_ HB GE414⟩
       ·rw [if_neg c8] at H
        exact absurd H (by simp)
      ·rw [if_neg c7] at H
       have c7b0 : decide (x5_2 < (l1.length : Int)) = false:=decide_eq_false c7
       clear c7
       obtain rfl:=Option.some.inj H
       go_wp2
       go_ret
       exact ⟨qe_,u0_ HB⟩

end Go.Proofs.Ytdamdcdjodmemaa.PAll
